/- Part 6 of what this claim leans on: MV, EM. -/
import Derived.Laws.BitsLemmas
import Derived.Test.YtdoooffmaokaeaaGreatDoorZ3
/- Rows of bits, as words, in plain Lean. Of no function of the program. -/
section
set_option linter.unusedVariables false
set_option linter.unusedSimpArgs false
set_option linter.unusedSectionVars false
namespace Go.Proofs.MV
open Go (IntKind bits)
set_option linter.unusedVariables false
def wd (f : Nat → Bool) : Nat → Nat
  | 0 => 0
  | k + 1 => 2 ^ k * (f k).toNat + wd f k
theorem wd_lt (f : Nat → Bool) : ∀ k, wd f k < 2 ^ k
  | 0 => Nat.one_pos
  | k + 1 => by
    have := wd_lt f k
    unfold wd
    rw [Nat.pow_succ]
    cases f k <;> simp <;> omega
theorem wd_bit (f : Nat → Bool) : ∀ k i, (wd f k).testBit i = (decide (i < k) && f i)
  | 0, i => by simp [wd]
  | k + 1, i => by
    unfold wd
    rw [Nat.testBit_two_pow_mul_add _ (wd_lt f k), wd_bit f k]
    by_cases h : i < k
    · simp [h, Nat.lt_succ_of_lt h]
    · rw [if_neg h]
      by_cases e : i = k
      · subst e; simp; cases f i <;> rfl
      · rw [Nat.testBit_lt_two_pow (Nat.lt_of_lt_of_le (Bool.toNat_lt _) (Nat.le_trans (show 2 ≤ 2 ^ 1 by decide) (Nat.pow_le_pow_right (by decide) (show 1 ≤ i - k by omega))))]
        simp; omega
theorem wd_ext {f g : Nat → Bool} {k : Nat} (h : ∀ i, i < k → f i = g i) : wd f k = wd g k := by
  apply Nat.eq_of_testBit_eq
  intro i
  rw [wd_bit, wd_bit]
  by_cases e : i < k
  · rw [h i e]
  · simp [e]
/-- Any number is the word of its bits. -/
theorem wd_self {x k : Nat} (h : x < 2 ^ k) : wd x.testBit k = x := by
  apply Nat.eq_of_testBit_eq
  intro i
  rw [wd_bit]
  by_cases e : i < k
  · simp [e]
  · rw [Nat.testBit_lt_two_pow (Nat.lt_of_lt_of_le h (Nat.pow_le_pow_right (by decide) (by omega)))]; simp
def bt (l : List Bool) (i : Nat) : Bool := l.getD i false
theorem bt_out (l : List Bool) (i : Nat) (h : l.length ≤ i) : bt l i = false := by
  unfold bt
  rw [List.getD_eq_getElem?_getD, List.getElem?_eq_none h]; rfl
theorem bt_ext {a b : List Bool} (hl : a.length = b.length) (h : ∀ i, i < a.length → bt a i = bt b i) : a = b := by
  apply List.ext_getElem hl
  intro i h1 h2
  have := h i h1
  unfold bt at this
  rw [List.getD_eq_getElem?_getD, List.getD_eq_getElem?_getD, List.getElem?_eq_getElem h1, List.getElem?_eq_getElem h2] at this
  exact this
/-- Word j of a row of bits; all words. -/
def wN (l : List Bool) (j : Nat) : Nat := wd (fun i => bt l (64 * j + i)) 64
def wsm (l : List Bool) (m : Nat) : List Int := (List.range m).map fun j => (wN l j : Int)
def ws (l : List Bool) : List Int := wsm l ((l.length + 63) / 64)
theorem wN_lt (l : List Bool) (j : Nat) : wN l j < 2 ^ 64 := wd_lt _ _
theorem wN_bit (l : List Bool) (j i : Nat) : (wN l j).testBit i = (decide (i < 64) && bt l (64 * j + i)) := wd_bit _ _ _
theorem wN_out (l : List Bool) (j : Nat) (h : l.length ≤ 64 * j) : wN l j = 0 := by
  apply Nat.eq_of_testBit_eq
  intro i
  rw [wN_bit, bt_out _ _ (by omega)]
  simp
/-- The bit that is read. -/
theorem bit_read (l : List Bool) (i : Nat) : (((wN l (i / 64) : Nat) : Int) / 2 ^ (i % 64)) % 2 = ((bt l i).toNat : Int) := by
  have h : (wN l (i / 64)).testBit (i % 64) = bt l i := by
    rw [wN_bit, decide_eq_true (Nat.mod_lt _ (by decide)), Bool.true_and]
    congr 1; omega
  rw [← h, Nat.testBit_eq_decide_div_mod_eq]
  have e : ((wN l (i / 64) : Nat) : Int) / 2 ^ (i % 64) % 2 = ((wN l (i / 64) / 2 ^ (i % 64) % 2 : Nat) : Int) := by
    rw [Int.natCast_emod, Int.natCast_ediv]; simp
  rw [e]
  congr 1
  have := Nat.mod_lt (wN l (i / 64) / 2 ^ (i % 64)) (show 0 < 2 by decide)
  by_cases e : wN l (i / 64) / 2 ^ (i % 64) % 2 = 1
  · simp [e]
  · simp [e]; omega
/-- The last word keeps under its mask. -/
theorem wN_last (l : List Bool) (h : 0 < l.length % 64) : wN l ((l.length + 63) / 64 - 1) < 2 ^ (l.length % 64) := by
  apply Nat.lt_pow_two_of_testBit
  intro i hi
  rw [wN_bit, bt_out _ _ (by omega)]
  simp
/-! ### As the machine's numbers -/
theorem w64u (n : Int) (h0 : 0 ≤ n) (h1 : n < 2 ^ 64) : IntKind.u64.wrap n = n := by
  have : IntKind.u64.wrap n = n % 18446744073709551616 := by simp [IntKind.wrap, IntKind.bits, IntKind.signed]
  rw [this]
  omega
theorem or_nat (a b : Nat) (ha : a < 2 ^ 64) (hb : b < 2 ^ 64) : bits .or .u64 (a : Int) (b : Int) = ((a ||| b : Nat) : Int) := (Go.bits_nat .u64 64 (by decide) w64u a b ha hb).2
theorem and_nat (a b : Nat) (ha : a < 2 ^ 64) (hb : b < 2 ^ 64) : bits .and .u64 (a : Int) (b : Int) = ((a &&& b : Nat) : Int) := (Go.bits_nat .u64 64 (by decide) w64u a b ha hb).1
theorem andNot_zero (a k : Nat) (hk : k ≤ 64) (ha : a < 2 ^ k) : bits .andNot .u64 (a : Int) ((2 ^ k - 1 : Nat) : Int) = 0 := by
  have h64 : a < 2 ^ 64 := Nat.lt_of_lt_of_le ha (Nat.pow_le_pow_right (by decide) hk)
  have e : BitVec.ofInt 64 (a : Int) &&& ~~~ BitVec.ofInt 64 ((2 ^ k - 1 : Nat) : Int) = 0#64 := by
    apply BitVec.eq_of_getLsbD_eq
    intro i hi
    rw [BitVec.getLsbD_and, BitVec.getLsbD_not, BitVec.ofInt_natCast, BitVec.ofInt_natCast, BitVec.getLsbD_ofNat, BitVec.getLsbD_ofNat, BitVec.getLsbD_zero, Nat.testBit_two_pow_sub_one]
    by_cases h : i < k
    · simp [h, hi]
    · rw [Nat.testBit_lt_two_pow (Nat.lt_of_lt_of_le ha (Nat.pow_le_pow_right (by decide) (show k ≤ i by omega)))]
      simp
  show IntKind.u64.wrap ((BitVec.ofInt 64 (a : Int) &&& ~~~ BitVec.ofInt 64 ((2 ^ k - 1 : Nat) : Int)).toNat : Int) = 0
  rw [e]
  rfl
theorem mask_num (n : Nat) (h : 0 < n) (h2 : n ≤ 64) : (18446744073709551615 : Int) / 2 ^ (64 - n) = ((2 ^ n - 1 : Nat) : Int) := by
  have e : (18446744073709551615 : Int) / 2 ^ (64 - n) = ((18446744073709551615 / 2 ^ (64 - n) : Nat) : Int) := by rw [Int.natCast_ediv]; simp
  rw [e]
  congr 1
  have h3 : 2 ^ n * 2 ^ (64 - n) = 2 ^ 64 := by rw [← Nat.pow_add]; congr 1; omega
  have hp := Nat.two_pow_pos (64 - n)
  have hq := Nat.two_pow_pos n
  rw [show 18446744073709551615 = 2 ^ 64 - 1 from rfl, ← h3]
  generalize 2 ^ (64 - n) = b at *
  generalize 2 ^ n = a at *
  rw [Nat.div_eq_iff hp]
  constructor
  · rw [Nat.sub_mul]; omega
  · rw [Nat.sub_mul]; have := Nat.le_mul_of_pos_left b hq; omega
/-! ### Bits behind bits -/
def bitsOf (x k : Nat) : List Bool := (List.range k).map x.testBit
theorem bitsOf_length (x k : Nat) : (bitsOf x k).length = k := by simp [bitsOf]
theorem bt_bitsOf (x k i : Nat) : bt (bitsOf x k) i = (decide (i < k) && x.testBit i) := by
  unfold bt bitsOf
  rw [List.getD_eq_getElem?_getD, List.getElem?_map]
  by_cases h : i < k
  · rw [List.getElem?_range h]; simp [h]
  · rw [List.getElem?_eq_none (by simpa using Nat.le_of_not_lt h)]; simp [h]
theorem bitsOf_mod (x k : Nat) : bitsOf (x % 2 ^ k) k = bitsOf x k := by
  unfold bitsOf
  apply List.map_congr_left
  intro i hi
  rw [Nat.testBit_mod_two_pow, decide_eq_true (List.mem_range.1 hi), Bool.true_and]
theorem bt_append (a b : List Bool) (i : Nat) : bt (a ++ b) i = if i < a.length then bt a i else bt b (i - a.length) := by
  unfold bt
  simp only [List.getD_eq_getElem?_getD]
  by_cases h : i < a.length
  · rw [if_pos h, List.getElem?_append_left h]
  · rw [if_neg h, List.getElem?_append_right (by omega)]
theorem bt_behind (l : List Bool) (x k i : Nat) (hx : x < 2 ^ k) : bt (l ++ bitsOf x k) i = (bt l i || (decide (l.length ≤ i) && x.testBit (i - l.length))) := by
  rw [bt_append]
  by_cases h : i < l.length
  · rw [if_pos h, decide_eq_false (by omega)]; simp
  · rw [if_neg h, bt_bitsOf, bt_out l i (by omega), decide_eq_true (show l.length ≤ i by omega)]
    by_cases q : i - l.length < k
    · simp [q]
    · rw [Nat.testBit_lt_two_pow (Nat.lt_of_lt_of_le hx (Nat.pow_le_pow_right (by decide) (show k ≤ i - l.length by omega)))]; simp
/-- The words behind a fill. -/
theorem wN_fill (l : List Bool) (x k j : Nat) (hx : x < 2 ^ k) (hk : k ≤ 64) : wN (l ++ bitsOf x k) j =
    if j = l.length / 64 then wN l j ||| x * 2 ^ (l.length % 64) % 2 ^ 64 else if j = l.length / 64 + 1 ∧ 0 < l.length % 64 then wN l j ||| x / 2 ^ (64 - l.length % 64) else wN l j := by
  have h64 : x < 2 ^ 64 := Nat.lt_of_lt_of_le hx (Nat.pow_le_pow_right (by decide) hk)
  have hs : ∀ i, k ≤ i → x.testBit i = false := fun i hi => Nat.testBit_lt_two_pow (Nat.lt_of_lt_of_le hx (Nat.pow_le_pow_right (by decide) hi))
  apply Nat.eq_of_testBit_eq
  intro i
  rw [wN_bit, bt_behind l x k _ hx]
  generalize hn : l.length = n
  by_cases c1 : j = n / 64
  · rw [if_pos c1, Nat.testBit_or, wN_bit, Nat.testBit_mod_two_pow, Nat.testBit_mul_two_pow]
    by_cases hi : i < 64
    · rw [decide_eq_true hi, Bool.true_and, Bool.true_and, Bool.true_and]
      congr 1
      by_cases h : n ≤ 64 * j + i
      · rw [decide_eq_true h, decide_eq_true (show n % 64 ≤ i by omega), show 64 * j + i - n = i - n % 64 by omega]
      · rw [decide_eq_false h, decide_eq_false (show ¬ n % 64 ≤ i by omega)]; rfl
    · rw [decide_eq_false hi]; simp
  · rw [if_neg c1]
    by_cases c2 : j = n / 64 + 1 ∧ 0 < n % 64
    · rw [if_pos c2, Nat.testBit_or, wN_bit, Nat.testBit_div_two_pow, decide_eq_true (show n ≤ 64 * j + i by omega), show 64 * j + i - n = i + (64 - n % 64) by omega]
      by_cases hi : i < 64
      · rw [decide_eq_true hi]; simp
      · rw [decide_eq_false hi, hs _ (by omega)]; simp
    · rw [if_neg c2, wN_bit]
      by_cases hi : i < 64
      · rw [decide_eq_true hi, Bool.true_and, Bool.true_and]
        by_cases h : n ≤ 64 * j + i
        · rw [hs (64 * j + i - n) (by omega)]; simp
        · rw [decide_eq_false h]; simp
      · rw [decide_eq_false hi]; rfl
/-- Some bits as a number. -/
def piece (l : List Bool) (at_ n : Nat) : Nat := wd (fun i => bt l (at_ + i)) n
theorem part_one (l : List Bool) (p n : Nat) (h : p % 64 + n ≤ 64) : wN l (p / 64) / 2 ^ (p % 64) % 2 ^ n = piece l p n := by
  apply Nat.eq_of_testBit_eq
  intro i
  unfold piece
  rw [wd_bit, Nat.testBit_mod_two_pow, Nat.testBit_div_two_pow, wN_bit]
  by_cases hi : i < n
  · rw [decide_eq_true hi, decide_eq_true (show i + p % 64 < 64 by omega), show 64 * (p / 64) + (i + p % 64) = p + i by omega]; simp
  · rw [decide_eq_false hi]; rfl
theorem part_two (l : List Bool) (p n : Nat) (h : 64 < p % 64 + n) (hn : n ≤ 64) : (wN l (p / 64) / 2 ^ (p % 64) ||| wN l (p / 64 + 1) * 2 ^ (64 - p % 64) % 2 ^ 64) % 2 ^ n = piece l p n := by
  apply Nat.eq_of_testBit_eq
  intro i
  unfold piece
  rw [wd_bit, Nat.testBit_mod_two_pow, Nat.testBit_or, Nat.testBit_div_two_pow, Nat.testBit_mod_two_pow, Nat.testBit_mul_two_pow, wN_bit, wN_bit]
  by_cases hi : i < n
  · rw [decide_eq_true hi, decide_eq_true (show i < 64 by omega)]
    by_cases q : i + p % 64 < 64
    · rw [decide_eq_true q, decide_eq_false (show ¬ 64 - p % 64 ≤ i by omega), show 64 * (p / 64) + (i + p % 64) = p + i by omega]; simp
    · rw [decide_eq_false q, decide_eq_true (show 64 - p % 64 ≤ i by omega), decide_eq_true (show i - (64 - p % 64) < 64 by omega), show 64 * (p / 64 + 1) + (i - (64 - p % 64)) = p + i by omega]; simp
  · rw [decide_eq_false hi]; rfl
end Go.Proofs.MV
end
/- The machine of values: loops. Of no function. -/
section
set_option linter.unusedVariables false
set_option linter.unusedSimpArgs false
set_option linter.unusedSectionVars false
namespace Go.Proofs.E
open Go
set_option linter.unusedVariables false
section
variable {P : Program} {A : Amb}
/-- What a loop's body leads to. -/
def loopX {σ : Type} (P : Program) (n0 : Nat) (m : σ → Nat) (I : σ → Prop) (S : σ → St) (k : Nat) (Q : Exit → St → Prop) : Exit → St → Prop
  | .normal, s => ∃ x', m x' < k ∧ I x' ∧ Le P n0 (S x') s
  | e, s => Q e s
theorem loopX_n {σ : Type} (n0 : Nat) (m : σ → Nat) (I : σ → Prop) (S : σ → St) (k : Nat) (Q : Exit → St → Prop) (s : St) : loopX P n0 m I S k Q .normal s = ∃ x', m x' < k ∧ I x' ∧ Le P n0 (S x') s := _root_.id rfl
theorem loopX_e {σ : Type} (n0 : Nat) (m : σ → Nat) (I : σ → Prop) (S : σ → St) (k : Nat) (Q : Exit → St → Prop) (j : Nat) (s : St) : loopX P n0 m I S k Q (.exit j) s = Q (.exit j) s := _root_.id rfl
theorem loopX_r {σ : Type} (n0 : Nat) (m : σ → Nat) (I : σ → Prop) (S : σ → St) (k : Nat) (Q : Exit → St → Prop) (s : St) : loopX P n0 m I S k Q .ret s = Q .ret s := _root_.id rfl
theorem loop_ {σ : Type} {n0 : Nat} {fz : List Nat} {c : Code} {Q : Exit → St → Prop} {s : St} (S : σ → St) (I : σ → Prop) (m : σ → Nat) (x0 : σ) (h0 : I x0) (hs : Le P n0 (S x0) s)
    (step : ∀ x, I x → W P A n0 fz c (loopX P n0 m I S (m x) Q) (S x)) : LoopW P n0 (W P A n0 fz c) Q s := by
  refine ⟨fun n s' => ∃ x, I x ∧ n = m x ∧ s' = S x, ⟨m x0, S x0, ⟨x0, h0, rfl, rfl⟩, hs⟩, fun n s' ⟨x, hI, hn, hx⟩ => ?_⟩
  subst hn; subst hx
  have : loopX P n0 m I S (m x) Q = loopK P n0 (fun n s' => ∃ x, I x ∧ n = m x ∧ s' = S x) (m x) Q := by
    funext e s
    cases e with
    | normal =>
      simp only [loopX, loopK]
      exact propext ⟨fun ⟨x', h1, h2, h3⟩ => ⟨m x', S x', h1, ⟨x', h2, rfl, rfl⟩, h3⟩, fun ⟨n', s', h1, ⟨x', h2, h3, h4⟩, h5⟩ => ⟨x', by omega, h2, by rw [← h4]; exact h5⟩⟩
    | _ => rfl
  rw [← this]
  exact step x hI
theorem le_slots' {n0 : Nat} {T T' : Tm} {H H' : Heap} (h0 : n0 ≤ H.length) (hH : H' = H) (ht : TLs T T') : Le P n0 ⟨T', H'⟩ ⟨T, H⟩ := by subst hH; exact le_slots h0 ht
theorem tls_nil (T : Tm) : TLs T [] = True := _root_.id rfl
theorem tls_cons (T : Tm) (t : Nat) (v : V) (T' : Tm) : TLs T ((t, v) :: T') = ((v = .any ∨ v = lk T t) ∧ TLs T T') := _root_.id rfl
theorem tlv_nil (n : Nat) (T : Tm) : TLv n T [] = True := _root_.id rfl
theorem tlv_cons (n : Nat) (T : Tm) (t : Nat) (v : V) (T' : Tm) : TLv n T ((t, v) :: T') = ((v = .any ∨ v = lk T t ∨ (v = .o n 0 0 0 ∧ lk T t = .ns)) ∧ TLv n T T') := _root_.id rfl
end
/-! ### Words -/
section
theorem orN {a b : Nat} (ha : a < 2 ^ 64) (hb : b < 2 ^ 64) : bits .or .u64 (a : Int) (b : Int) = ((a ||| b : Nat) : Int) := Go.Proofs.MV.or_nat a b ha hb
theorem andN {a b : Nat} (ha : a < 2 ^ 64) (hb : b < 2 ^ 64) : bits .and .u64 (a : Int) (b : Int) = ((a &&& b : Nat) : Int) := Go.Proofs.MV.and_nat a b ha hb
theorem andNl {a k : Nat} (ha : a < 2 ^ 64) (hb : OfNat.ofNat k < 2 ^ 64) : bits .and .u64 (a : Int) (no_index (OfNat.ofNat k) : Int) = ((a &&& OfNat.ofNat k : Nat) : Int) := andN ha hb
theorem orNl {a k : Nat} (ha : a < 2 ^ 64) (hb : OfNat.ofNat k < 2 ^ 64) : bits .or .u64 (a : Int) (no_index (OfNat.ofNat k) : Int) = ((a ||| OfNat.ofNat k : Nat) : Int) := orN ha hb
theorem w8 (n : Int) (h0 : 0 ≤ n) (h1 : n < 2 ^ 8) : IntKind.u8.wrap n = n := wU8 h0 h1
theorem w63 (n : Int) (h0 : 0 ≤ n) (h1 : n < 2 ^ 63) : IntKind.i64.wrap n = n := wI64 (by omega) (by omega)
theorem or8 {a b : Nat} (ha : a < 256) (hb : b < 256) : bits .or .u8 (a : Int) (b : Int) = ((a ||| b : Nat) : Int) := (Go.bits_nat .u8 8 (by decide) w8 a b ha hb).2
theorem and8 {a b : Nat} (ha : a < 256) (hb : b < 256) : bits .and .u8 (a : Int) (b : Int) = ((a &&& b : Nat) : Int) := (Go.bits_nat .u8 8 (by decide) w8 a b ha hb).1
theorem or8l {a k : Nat} (ha : a < 256) (hb : OfNat.ofNat k < 256) : bits .or .u8 (a : Int) (no_index (OfNat.ofNat k) : Int) = ((a ||| OfNat.ofNat k : Nat) : Int) := or8 ha hb
theorem and8l {a k : Nat} (ha : a < 256) (hb : OfNat.ofNat k < 256) : bits .and .u8 (a : Int) (no_index (OfNat.ofNat k) : Int) = ((a &&& OfNat.ofNat k : Nat) : Int) := and8 ha hb
theorem andI {a b : Nat} (ha : a < 2 ^ 63) (hb : b < 2 ^ 63) : bits .and .i64 (a : Int) (b : Int) = ((a &&& b : Nat) : Int) := (Go.bits_nat .i64 63 (by decide) w63 a b ha hb).1
theorem andIl {a k : Nat} (ha : a < 2 ^ 63) (hb : OfNat.ofNat k < 2 ^ 63) : bits .and .i64 (a : Int) (no_index (OfNat.ofNat k) : Int) = ((a &&& OfNat.ofNat k : Nat) : Int) := andI ha hb
theorem shlM (k : IntKind) (b : Nat) (hk : k.bits = b) (hs : k.signed = false) (x y : Nat) : shV .shl k (x : Int) (y : Int) = .i k ((x * 2 ^ (min y b) % 2 ^ b : Nat) : Int) := by
  show V.i k (k.wrap ((x : Int) * 2 ^ (min ((y : Int)).toNat k.bits))) = _
  congr 1
  unfold IntKind.wrap
  simp only [hk, hs, Bool.false_and, Bool.false_eq_true, if_false, Int.toNat_natCast]
  rw [Int.natCast_emod, Int.natCast_mul]
  simp
theorem shlU (x y : Nat) : shV .shl .u64 (x : Int) (y : Int) = .i .u64 ((x * 2 ^ (min y 64) % 2 ^ 64 : Nat) : Int) := shlM .u64 64 rfl rfl x y
theorem shlUl (k y : Nat) : shV .shl .u64 (no_index (OfNat.ofNat k) : Int) (y : Int) = .i .u64 ((OfNat.ofNat k * 2 ^ (min y 64) % 2 ^ 64 : Nat) : Int) := shlU k y
theorem shl8 (x y : Nat) : shV .shl .u8 (x : Int) (y : Int) = .i .u8 ((x * 2 ^ (min y 8) % 2 ^ 8 : Nat) : Int) := shlM .u8 8 rfl rfl x y
theorem shl8l (k y : Nat) : shV .shl .u8 (no_index (OfNat.ofNat k) : Int) (y : Int) = .i .u8 ((OfNat.ofNat k * 2 ^ (min y 8) % 2 ^ 8 : Nat) : Int) := shl8 k y
theorem shlI {x y : Nat} (h : x * 2 ^ y < 9223372036854775808) (hy : y ≤ 64) : shV .shl .i64 (x : Int) (y : Int) = .i .i64 ((x * 2 ^ y : Nat) : Int) := by
  show V.i .i64 (IntKind.i64.wrap ((x : Int) * 2 ^ (min ((y : Int)).toNat 64))) = _
  congr 1
  rw [Int.toNat_natCast, Nat.min_eq_left hy]
  have e : ((x : Int) * 2 ^ y) = ((x * 2 ^ y : Nat) : Int) := by simp
  rw [e]
  exact wI64 (by omega) (by omega)
theorem orI {a b : Nat} (ha : a < 2 ^ 63) (hb : b < 2 ^ 63) : bits .or .i64 (a : Int) (b : Int) = ((a ||| b : Nat) : Int) := (Go.bits_nat .i64 63 (by decide) w63 a b ha hb).2
theorem c0 : ((0 : Nat) : Int) = 0 := _root_.id rfl
theorem cn (k : Nat) : ((no_index (OfNat.ofNat k) : Nat) : Int) = (OfNat.ofNat k : Int) := _root_.id rfl
theorem bft : (false == true) = false := _root_.id rfl
theorem btf : (true == false) = false := _root_.id rfl
theorem modE {a b : Nat} (h : a < b) : a % b = a := Nat.mod_eq_of_lt h
def mapP (ρ : Operand → V) : List (Nat × Operand) → List (Nat × V)
  | [] => []
  | (i, x) :: l => (i, ρ x) :: mapP ρ l
theorem mapP_eq (ρ : Operand → V) (l : List (Nat × Operand)) : (l.map fun (i, x) => (i, ρ x)) = mapP ρ l := by
  induction l with
  | nil => rfl
  | cons a l ih => simp only [List.map_cons, ih]; rfl
theorem mapP_nil (ρ : Operand → V) : mapP ρ [] = [] := _root_.id rfl
theorem mapP_cons (ρ : Operand → V) (i : Nat) (x : Operand) (l : List (Nat × Operand)) : mapP ρ ((i, x) :: l) = (i, ρ x) :: mapP ρ l := _root_.id rfl
theorem andNotN {a b : Nat} (ha : a < 2 ^ 64) (hb : b < 2 ^ 64) : bits .andNot .u64 (a : Int) (b : Int) = ((a &&& (2 ^ 64 - (b + 1)) : Nat) : Int) := by
  show IntKind.u64.wrap ((BitVec.ofInt 64 (a : Int) &&& ~~~ BitVec.ofInt 64 (b : Int)).toNat : Int) = _
  rw [BitVec.toNat_and, BitVec.toNat_not, BitVec.ofInt_natCast, BitVec.ofInt_natCast, BitVec.toNat_ofNat, BitVec.toNat_ofNat, Nat.mod_eq_of_lt ha, Nat.mod_eq_of_lt hb, show 2 ^ 64 - 1 - b = 2 ^ 64 - (b + 1) by omega]
  exact wU64 (by omega) (by have := Nat.and_le_left (n := a) (m := 2 ^ 64 - (b + 1)); omega)
theorem notN {a : Nat} (ha : a < 2 ^ 64) : bits .xor .u64 (if IntKind.u64.signed = true then -1 else IntKind.u64.max) (a : Int) = ((18446744073709551616 - (a + 1) : Nat) : Int) := by
  show IntKind.u64.wrap ((BitVec.ofInt 64 (18446744073709551615 : Int) ^^^ BitVec.ofInt 64 (a : Int)).toNat : Int) = _
  have h1 : BitVec.ofInt 64 (18446744073709551615 : Int) = BitVec.allOnes 64 := by decide
  have h2 : ∀ y : BitVec 64, BitVec.allOnes 64 ^^^ y = ~~~ y := fun y => by first | exact BitVec.allOnes_xor | (apply BitVec.eq_of_getLsbD_eq; intro i hi; rw [BitVec.getLsbD_xor, BitVec.getLsbD_not, BitVec.getLsbD_allOnes]; simp [hi])
  rw [h1, BitVec.ofInt_natCast, h2, BitVec.toNat_not, BitVec.toNat_ofNat, Nat.mod_eq_of_lt ha, show 2 ^ 64 - 1 - a = 18446744073709551616 - (a + 1) by omega]
  exact wU64 (by omega) (by omega)
theorem getSet {H : Heap} {b : Nat} {k k' : Blk} (h : H[b]? = some k) : (H.set b k')[b]? = some k' := List.getElem?_set_self (List.getElem?_eq_some_iff.1 h).1
theorem getD_set {l : List Nat} {j x d : Nat} (h : j < l.length) : (l.set j x).getD j d = x := by rw [List.getD_eq_getElem?_getD, List.getElem?_set_self h]; rfl
theorem addsubl {a j k : Nat} (h : OfNat.ofNat k ≤ OfNat.ofNat j) : a + (no_index (OfNat.ofNat j) : Nat) - (no_index (OfNat.ofNat k) : Nat) = a + ((OfNat.ofNat j : Nat) - (OfNat.ofNat k : Nat)) := Nat.add_sub_assoc (m := j) (k := k) h a
theorem cfdivN (a b : Nat) : ((a : Int)).fdiv (b : Int) = ((a / b : Nat) : Int) := by rw [Int.fdiv_eq_ediv_of_nonneg _ (Int.natCast_nonneg b), Int.natCast_ediv]
theorem cfdivl (a k : Nat) : ((a : Int)).fdiv (no_index (OfNat.ofNat k) : Int) = ((a / OfNat.ofNat k : Nat) : Int) := cfdivN a k
theorem clfdiv (k n : Nat) : ((no_index (OfNat.ofNat k) : Int)).fdiv (2 ^ n) = ((OfNat.ofNat k / 2 ^ n : Nat) : Int) := cfdiv k n
theorem maxz (n : Nat) : (if 0 < n then (n : Int) else 0) = (n : Int) := by split <;> omega
theorem fdiv1 (x : Int) : Int.fdiv x 1 = x := Int.fdiv_one x
theorem spl_one (cs : List V) (o : Nat) (v : V) : spl cs o [v] = cs.set o v := _root_.id rfl
theorem spl_none (cs : List V) (o : Nat) : spl cs o [] = cs.take o ++ ([] ++ cs.drop (o + 0)) := by simp [spl]
theorem spl_two (cs : List V) (o : Nat) (a b : V) (c : List V) : spl cs o (a :: b :: c) = cs.take o ++ ((a :: b :: c) ++ cs.drop (o + (a :: b :: c).length)) := by simp [spl]
theorem spl_nums {k : IntKind} {a b : List Nat} {o : Nat} (h : o + b.length ≤ a.length) : spl (nums k a) o (nums k b) = nums k (a.take o ++ (b ++ a.drop (o + b.length))) := by
  match b with
  | [] => simp [spl, nums, List.map_take, List.map_drop]
  | [x] =>
    show (nums k a).set o (V.i k x) = _
    rw [List.set_eq_take_append_cons_drop]
    simp only [List.length_cons, List.length_nil] at h
    rw [if_pos (by simp [nums]; omega)]
    simp [nums, List.map_take, List.map_drop]
  | x :: y :: z => simp [spl, nums, List.map_take, List.map_drop]
theorem cltdiv (k a : Nat) : ((no_index (OfNat.ofNat k) : Int)).tdiv (a : Int) = ((OfNat.ofNat k / a : Nat) : Int) := ctdiv k a
theorem cltmod (k a : Nat) : ((no_index (OfNat.ofNat k) : Int)).tmod (a : Int) = ((OfNat.ofNat k % a : Nat) : Int) := ctmod k a
theorem maxN (a b : Nat) : (if a < b then (b : Int) else (a : Int)) = ((max a b : Nat) : Int) := by split <;> omega
theorem minN (a b : Nat) : (if b < a then (b : Int) else (a : Int)) = ((min a b : Nat) : Int) := by split <;> omega
theorem flat_rep1 {α : Type} (n : Nat) (v : α) : (List.replicate n [v]).flatten = List.replicate n v := by
  induction n with
  | zero => rfl
  | succ n ih => rw [List.replicate_succ, List.flatten_cons, ih]; rfl
theorem rep_bls (n : Nat) (b : Bool) : List.replicate n (V.b b) = bls (List.replicate n b) := by simp [bls]
theorem drop_rep_self {α : Type} (n : Nat) (v : α) : (List.replicate n v).drop n = [] := by simp
theorem minNl (a k : Nat) : (if a < (no_index (OfNat.ofNat k) : Nat) then (a : Int) else (no_index (OfNat.ofNat k) : Int)) = ((min (OfNat.ofNat k) a : Nat) : Int) := minN (OfNat.ofNat k) a
theorem minl {y b : Nat} (h : y ≤ b) : min y b = y := Nat.min_eq_left h
/-- A string, by its bytes' numbers. -/
def strB (l : List Nat) : ByteArray := ⟨(l.map UInt8.ofNat).toArray⟩
theorem str_nums (l : List Nat) : (⟨((nums .u8 l).map byV).toArray⟩ : ByteArray) = strB l := by
  unfold strB nums
  rw [List.map_map]
  congr 2
theorem all_u8 (l : List Nat) : (nums .u8 l).all u8V = true := by
  unfold nums
  rw [List.all_map, List.all_eq_true]
  intro x _; rfl
end
end Go.Proofs.E
end
