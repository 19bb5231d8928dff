/- Part 7 of what this claim leans on: MP, MR, MB, TKit. -/
import Derived.Laws.BitsLemmas
import Derived.Lib.TrailingZeros
import Derived.Test.YtdoooffmaokaeaaGreatDoorZ6
/- How many bits of a word are 1, as the library counts them; in plain Lean. Of no function of the program. -/
section
set_option linter.unusedVariables false
set_option linter.unusedSimpArgs false
set_option linter.unusedSectionVars false
namespace Go.Proofs.MP
set_option linter.unusedVariables false
/-- How many of the lowest k bits are 1. -/
def pop : Nat → Nat → Nat
  | 0, _ => 0
  | k + 1, x => x % 2 + pop k (x / 2)
theorem and_lane (a b c d : Nat) (hb : b < 256) (hd : d < 256) : (256 * a + b) &&& (256 * c + d) = 256 * (a &&& c) + (b &&& d) := by
  have h1 : (b &&& d) < 2 ^ 8 := Nat.and_lt_two_pow b hd
  apply Nat.eq_of_testBit_eq
  intro i
  rw [Nat.testBit_and, show 256 = 2 ^ 8 from rfl, Nat.testBit_two_pow_mul_add _ hb, Nat.testBit_two_pow_mul_add _ hd, Nat.testBit_two_pow_mul_add _ h1, Nat.testBit_and]
  split <;> simp [Nat.testBit_and]
/-- A mask of k bytes m; a function on each of k bytes. -/
def mk (m : Nat) : Nat → Nat
  | 0 => 0
  | k + 1 => 256 * mk m k + m
def L (f : Nat → Nat) : Nat → Nat → Nat
  | 0, _ => 0
  | k + 1, x => 256 * L f k (x / 256) + f (x % 256)
def t1 (b : Nat) : Nat := (b / 2 &&& 85) + (b &&& 85)
def t2 (b : Nat) : Nat := (b / 4 &&& 51) + (b &&& 51)
def t3 (b : Nat) : Nat := (b / 16 + b) &&& 15
theorem byte1 : ∀ b, b < 256 → ∀ r, r < 2 → ((128 * r + b / 2) &&& 85) = (b / 2 &&& 85) := by decide +kernel
theorem byte2 : ∀ b, b < 171 → ∀ r, r < 4 → ((64 * r + b / 4) &&& 51) = (b / 4 &&& 51) := by decide +kernel
theorem byte3 : ∀ b, b < 69 → ∀ r, r < 5 → (16 * r + (b / 16 + b)) &&& 15 = t3 b := by decide +kernel
theorem bytes : ∀ b, b < 256 → t1 b < 171 ∧ t2 (t1 b) < 69 ∧ t2 (t1 b) % 16 < 5 ∧ t3 (t2 (t1 b)) = pop 8 b ∧ pop 8 b ≤ 8 := by decide +kernel
theorem step1 : ∀ k x, (x / 2 &&& mk 85 k) + (x &&& mk 85 k) = L t1 k x
  | 0, x => by simp [mk, L]
  | k + 1, x => by
    have ih := step1 k (x / 256)
    have hb := byte1 (x % 256) (by omega) (x / 256 % 2) (by omega)
    have e : x / 2 = 256 * (x / 256 / 2) + (128 * (x / 256 % 2) + x % 256 / 2) := by omega
    have e2 : x &&& mk 85 (k + 1) = 256 * (x / 256 &&& mk 85 k) + (x % 256 &&& 85) := by
      rw [show mk 85 (k + 1) = 256 * mk 85 k + 85 from rfl]
      exact (congrArg (· &&& _) (show x = 256 * (x / 256) + x % 256 by omega)).trans (and_lane _ _ _ _ (by omega) (by omega))
    rw [e, e2, show mk 85 (k + 1) = 256 * mk 85 k + 85 from rfl, and_lane _ _ _ _ (by omega) (by omega), hb]
    show _ = 256 * L t1 k (x / 256) + ((x % 256 / 2 &&& 85) + (x % 256 &&& 85))
    omega
theorem step2 : ∀ k x, (L t1 k x / 4 &&& mk 51 k) + (L t1 k x &&& mk 51 k) = L (fun b => t2 (t1 b)) k x
  | 0, x => by simp [mk, L]
  | k + 1, x => by
    have ih := step2 k (x / 256)
    have hy := (bytes (x % 256) (by omega)).1
    rw [show L t1 (k + 1) x = 256 * L t1 k (x / 256) + t1 (x % 256) from rfl]
    generalize L t1 k (x / 256) = a at *
    generalize hb : t1 (x % 256) = b at *
    have h2 := byte2 b hy (a % 4) (by omega)
    have e : (256 * a + b) / 4 = 256 * (a / 4) + (64 * (a % 4) + b / 4) := by omega
    rw [e, show mk 51 (k + 1) = 256 * mk 51 k + 51 from rfl, and_lane _ _ _ _ (by omega) (by omega), and_lane _ _ _ _ (by omega) (by omega), h2]
    show _ = 256 * L (fun b => t2 (t1 b)) k (x / 256) + t2 (t1 (x % 256))
    rw [hb, ← ih]
    unfold t2
    omega
theorem low : ∀ k x, L (fun b => t2 (t1 b)) k x % 16 < 5
  | 0, x => by simp [L]
  | k + 1, x => by
    have := (bytes (x % 256) (by omega)).2.2.1
    unfold L
    omega
theorem step3 : ∀ k x, (L (fun b => t2 (t1 b)) k x / 16 + L (fun b => t2 (t1 b)) k x) &&& mk 15 k = L (pop 8) k x
  | 0, x => by simp [mk, L]
  | k + 1, x => by
    have ih := step3 k (x / 256)
    have hl := low k (x / 256)
    have hy := bytes (x % 256) (by omega)
    rw [show L (fun b => t2 (t1 b)) (k + 1) x = 256 * L (fun b => t2 (t1 b)) k (x / 256) + t2 (t1 (x % 256)) from rfl]
    generalize L (fun b => t2 (t1 b)) k (x / 256) = a at *
    generalize hb : t2 (t1 (x % 256)) = b at *
    have h3 := byte3 b hy.2.1 (a % 16) hl
    have e : (256 * a + b) / 16 + (256 * a + b) = 256 * (a / 16 + a) + (16 * (a % 16) + (b / 16 + b)) := by omega
    rw [e, show mk 15 (k + 1) = 256 * mk 15 k + 15 from rfl, and_lane _ _ _ _ (by omega) (by omega), h3, ih, hy.2.2.2.1]
    rfl
theorem pop_add : ∀ a b x, pop (a + b) x = pop a x + pop b (x / 2 ^ a)
  | 0, b, x => by simp [pop]
  | a + 1, b, x => by
    rw [show a + 1 + b = (a + b) + 1 by omega]
    show x % 2 + pop (a + b) (x / 2) = x % 2 + pop a (x / 2) + pop b (x / 2 ^ (a + 1))
    rw [pop_add a b (x / 2), Nat.div_div_eq_div_mul, show 2 * 2 ^ a = 2 ^ (a + 1) by rw [Nat.pow_succ]; omega]
    omega
theorem pop_mod : ∀ k x, pop k (x % 2 ^ k) = pop k x
  | 0, x => rfl
  | k + 1, x => by
    unfold pop
    rw [Nat.pow_succ, Nat.mul_comm, Nat.mod_mul_right_div_self, pop_mod k (x / 2), Nat.mod_mul_right_mod]
theorem pop_bytes : ∀ k x, pop (8 * k + 8) x = pop 8 (x % 256) + pop (8 * k) (x / 256) := by
  intro k x
  rw [Nat.add_comm, pop_add, ← pop_mod 8 x]
theorem key (r q b t : Nat) (h : t = r + b * q) (hr : r < b) : t / b = q := by
  subst h
  rw [Nat.add_mul_div_left _ _ (by omega), Nat.div_eq_of_lt hr, Nat.zero_add]
theorem key2 (r q b t : Nat) (h : t = r + b * q) (hr : r < b) : t % b = r := by
  subst h
  rw [Nat.add_mul_mod_self_left, Nat.mod_eq_of_lt hr]
/-- The sum of eight bytes. -/
theorem sum8 (d0 d1 d2 d3 d4 d5 d6 d7 : Nat) (h0 : d0 ≤ 8) (h1 : d1 ≤ 8) (h2 : d2 ≤ 8) (h3 : d3 ≤ 8) (h4 : d4 ≤ 8) (h5 : d5 ≤ 8) (h6 : d6 ≤ 8) (h7 : d7 ≤ 8)
    : ∀ y a b : Nat, (y = d0 + 256 * (d1 + 256 * d2 + 65536 * d3 + 16777216 * d4 + 4294967296 * d5 + 1099511627776 * d6 + 281474976710656 * d7)) → (a = y + y / 256) → (b = a + a / 65536) →
    (b + b / 4294967296) % 128 = d0 + d1 + d2 + d3 + d4 + d5 + d6 + d7 := by
  have f1 : d0 < 256 := by omega
  have f2 : d0 + d1 + 256 * (d1 + d2) < 65536 := by omega
  have f3 : d0 + d1 + d2 + d3 + 256 * (d1 + d2 + d3 + d4) + 65536 * (d2 + d3 + d4 + d5) + 16777216 * (d3 + d4 + d5 + d6) < 4294967296 := by omega
  have f4 : d0 + d1 + d2 + d3 + d4 + d5 + d6 + d7 < 128 := by omega
  clear h0 h1 h2 h3 h4 h5 h6 h7
  have g2 : d0 + 256 * (d1 + 256 * d2 + 65536 * d3 + 16777216 * d4 + 4294967296 * d5 + 1099511627776 * d6 + 281474976710656 * d7) + (d1 + 256 * d2 + 65536 * d3 + 16777216 * d4 + 4294967296 * d5 + 1099511627776 * d6 + 281474976710656 * d7) =
    d0 + d1 + 256 * (d1 + d2) + 65536 * (d2 + d3 + 256 * (d3 + d4) + 65536 * (d4 + d5) + 16777216 * (d5 + d6) + 4294967296 * (d6 + d7) + 1099511627776 * d7) := by clear f1 f2 f3 f4; omega
  have g3 : d0 + d1 + 256 * (d1 + d2) + 65536 * (d2 + d3 + 256 * (d3 + d4) + 65536 * (d4 + d5) + 16777216 * (d5 + d6) + 4294967296 * (d6 + d7) + 1099511627776 * d7) + (d2 + d3 + 256 * (d3 + d4) + 65536 * (d4 + d5) + 16777216 * (d5 + d6) + 4294967296 * (d6 + d7) + 1099511627776 * d7) =
    d0 + d1 + d2 + d3 + 256 * (d1 + d2 + d3 + d4) + 65536 * (d2 + d3 + d4 + d5) + 16777216 * (d3 + d4 + d5 + d6) + 4294967296 * (d4 + d5 + d6 + d7 + 256 * (d5 + d6 + d7) + 65536 * (d6 + d7) + 16777216 * d7) := by clear f1 f2 f3 f4 g2; omega
  have g4 : d0 + d1 + d2 + d3 + 256 * (d1 + d2 + d3 + d4) + 65536 * (d2 + d3 + d4 + d5) + 16777216 * (d3 + d4 + d5 + d6) + 4294967296 * (d4 + d5 + d6 + d7 + 256 * (d5 + d6 + d7) + 65536 * (d6 + d7) + 16777216 * d7) + (d4 + d5 + d6 + d7 + 256 * (d5 + d6 + d7) + 65536 * (d6 + d7) + 16777216 * d7) =
    d0 + d1 + d2 + d3 + d4 + d5 + d6 + d7 + 128 * (2 * (d1 + d2 + d3 + d4 + d5 + d6 + d7) + 512 * (d2 + d3 + d4 + d5 + d6 + d7) + 131072 * (d3 + d4 + d5 + d6 + d7) + 33554432 * (d4 + d5 + d6 + d7) + 8589934592 * (d5 + d6 + d7) + 2199023255552 * (d6 + d7) + 562949953421312 * d7) := by clear f1 f2 f3 f4 g2 g3; omega
  intro y a b hy ha hb
  rw [key _ _ _ _ hy f1, hy, g2] at ha
  rw [key _ _ _ _ ha f2, ha, g3] at hb
  rw [key _ _ _ _ hb f3, hb, g4]
  exact key2 _ _ _ _ rfl f4
theorem horner (d0 d1 d2 d3 d4 d5 d6 d7 : Nat) : 256 * (256 * (256 * (256 * (256 * (256 * (256 * (256 * 0 + d7) + d6) + d5) + d4) + d3) + d2) + d1) + d0 =
    d0 + 256 * (d1 + 256 * d2 + 65536 * d3 + 16777216 * d4 + 4294967296 * d5 + 1099511627776 * d6 + 281474976710656 * d7) := by omega
theorem ones (x a b : Nat) (ha : a = L (pop 8) 8 x + L (pop 8) 8 x / 256) (hb : b = a + a / 65536) : (b + b / 4294967296) % 128 = pop 64 x := by
  have h : ∀ z, pop 8 (z % 256) ≤ 8 := fun z => (bytes (z % 256) (by omega)).2.2.2.2
  have e := pop_bytes
  have e1 := e 1; have e2 := e 2; have e3 := e 3; have e4 := e 4; have e5 := e 5; have e6 := e 6; have e7 := e 7
  simp only [Nat.reduceMul, Nat.reduceAdd] at e1 e2 e3 e4 e5 e6 e7
  have p8 : ∀ z, pop 8 z = pop 8 (z % 256) := fun z => (pop_mod 8 z).symm
  rw [e7 x, e6, e5, e4, e3, e2, e1, p8 (x / 256 / 256 / 256 / 256 / 256 / 256 / 256)]
  have := sum8 _ _ _ _ _ _ _ _ (h x) (h (x / 256)) (h (x / 256 / 256)) (h (x / 256 / 256 / 256)) (h (x / 256 / 256 / 256 / 256)) (h (x / 256 / 256 / 256 / 256 / 256)) (h (x / 256 / 256 / 256 / 256 / 256 / 256)) (h (x / 256 / 256 / 256 / 256 / 256 / 256 / 256)) (L (pop 8) 8 x) a b ?_ ha hb
  · rw [this]; omega
  · simp only [L]
    exact horner _ _ _ _ _ _ _ _
theorem L_le : ∀ k x, L (pop 8) k x ≤ 8 * mk 1 k
  | 0, x => Nat.zero_le _
  | k + 1, x => by
    have h1 := L_le k (x / 256)
    have h2 := (bytes (x % 256) (Nat.mod_lt _ (by decide))).2.2.2.2
    rw [L, mk]
    generalize L (pop 8) k (x / 256) = a at *
    generalize pop 8 (x % 256) = b at *
    generalize mk 1 k = c at *
    omega
/-! ### The place of a one -/
theorem pop_succ (i x : Nat) : pop (i + 1) x = pop i x + (x.testBit i).toNat := by
  rw [pop_add, Nat.testBit_eq_decide_div_mod_eq]
  show _ + (x / 2 ^ i % 2 + 0) = _
  have := Nat.mod_lt (x / 2 ^ i) (show 0 < 2 by decide)
  by_cases h : x / 2 ^ i % 2 = 1
  · simp [h]
  · have : x / 2 ^ i % 2 = 0 := by omega
    simp [this]
theorem pop_ext {x y : Nat} : ∀ i, (∀ j, j < i → x.testBit j = y.testBit j) → pop i x = pop i y
  | 0, _ => rfl
  | i + 1, h => by rw [pop_succ, pop_succ, pop_ext i (fun j hj => h j (by omega)), h i (by omega)]
theorem pop_mono (x : Nat) {i j : Nat} (h : i ≤ j) : pop i x ≤ pop j x := by
  induction h with
  | refl => exact Nat.le_refl _
  | step _ ih => rw [Nat.succ_eq_add_one, pop_succ]; omega
theorem low_clear : ∀ (i x : Nat), x ≠ 0 → (x &&& (x - 1)).testBit i = (x.testBit i && decide (1 ≤ pop i x))
  | 0, x, hx => by
    rw [Nat.testBit_and, Nat.testBit_zero, Nat.testBit_zero]
    by_cases h : x % 2 = 1
    · have : ¬ (x - 1) % 2 = 1 := by omega
      simp [h, this, pop]
    · simp [h]
  | i + 1, x, hx => by
    rw [Nat.testBit_and, Nat.testBit_succ, Nat.testBit_succ, ← Nat.testBit_and]
    show _ = ((x / 2).testBit i && decide (1 ≤ x % 2 + pop i (x / 2)))
    by_cases h : x % 2 = 1
    · rw [show (x - 1) / 2 = x / 2 by omega, Nat.and_self, decide_eq_true (by omega), Bool.and_true]
    · rw [show (x - 1) / 2 = x / 2 - 1 by omega, low_clear i (x / 2) (by omega), show x % 2 = 0 by omega, Nat.zero_add]
/-- The lowest j ones away. -/
def clr (x : Nat) : Nat → Nat
  | 0 => x
  | j + 1 => clr x j &&& (clr x j - 1)
theorem clr_all (x : Nat) : ∀ j, j ≤ pop 64 x → (∀ i, i ≤ 64 → (clr x j).testBit i = (x.testBit i && decide (j ≤ pop i x))) ∧ ∀ i, i ≤ 64 → pop i (clr x j) = pop i x - j
  | 0, _ => ⟨fun i _ => by simp [clr], fun i _ => rfl⟩
  | j + 1, hj => by
    obtain ⟨h1, h2⟩ := clr_all x j (by omega)
    have hne : clr x j ≠ 0 := by
      intro e
      have := h2 64 (Nat.le_refl _)
      rw [e] at this
      have z : ∀ i, pop i 0 = 0 := fun i => by induction i with
        | zero => rfl
        | succ i ih => rw [pop_succ, ih]; simp
      rw [z] at this
      omega
    have hb : ∀ i, i ≤ 64 → (clr x (j + 1)).testBit i = (x.testBit i && decide (j + 1 ≤ pop i x)) := by
      intro i hi
      show (clr x j &&& (clr x j - 1)).testBit i = _
      rw [low_clear i _ hne, h1 i hi, h2 i hi, Bool.and_assoc]
      congr 1
      by_cases q : j + 1 ≤ pop i x
      · simp [q]; omega
      · simp [q]; omega
    refine ⟨hb, fun i => ?_⟩
    induction i with
    | zero => intro _; simp [pop]
    | succ i ih =>
      intro hi
      rw [pop_succ, pop_succ, ih (by omega), hb i (by omega)]
      cases hq : x.testBit i
      · simp
      · by_cases q : j + 1 ≤ pop i x
        · simp [q]; omega
        · simp [q]; omega
theorem clr_le (x : Nat) : ∀ j, clr x j ≤ x
  | 0 => Nat.le_refl _
  | j + 1 => Nat.le_trans Nat.and_le_left (clr_le x j)
/-- The place of the k-th one of a word. -/
def sel (x k : Nat) : Nat := Go.Lib.ctz 64 (clr x k)
theorem sel_spec (x k : Nat) (hx : x < 2 ^ 64) (hk : k < pop 64 x) : clr x k ≠ 0 ∧ sel x k < 64 ∧ x.testBit (sel x k) = true ∧ pop (sel x k) x = k := by
  obtain ⟨h1, h2⟩ := clr_all x k (by omega)
  have hne : clr x k ≠ 0 := by
    intro e
    have := (clr_all x (k + 1) hk).2 64 (Nat.le_refl _)
    have h3 := h2 64 (Nat.le_refl _)
    rw [e] at h3
    have z : pop 64 0 = 0 := by decide
    omega
  have hlt : clr x k < 2 ^ 64 := Nat.lt_of_le_of_lt (clr_le x k) hx
  obtain ⟨m, hm, ht⟩ := Go.Lib.ctzFrom_spec 64 (clr x k) (by omega) hlt
  have hs : sel x k = Go.Lib.ctzFrom 64 (clr x k) := by unfold sel Go.Lib.ctz; rw [if_neg hne]
  rw [← hs] at hm ht
  have ht1 : (clr x k).testBit (sel x k) = true := by
    rw [hm, Nat.testBit_two_pow_mul]; simp
  have hlow : ∀ i, i < sel x k → (clr x k).testBit i = false := by
    intro i hi
    rw [hm, Nat.testBit_two_pow_mul]; simp; omega
  rw [h1 _ (by omega), Bool.and_eq_true, decide_eq_true_eq] at ht1
  refine ⟨hne, ht, ht1.1, ?_⟩
  have h4 := h2 (sel x k) (by omega)
  have h5 : pop (sel x k) (clr x k) = pop (sel x k) 0 := pop_ext _ fun j hj => by rw [hlow j hj]; simp
  have z : ∀ i, pop i 0 = 0 := fun i => by induction i with
    | zero => rfl
    | succ i ih => rw [pop_succ, ih]; simp
  rw [z] at h5
  omega
/-- There is but one such place. -/
theorem sel_uniq (x : Nat) {i j : Nat} (hi : x.testBit i = true) (hj : x.testBit j = true) (h : pop i x = pop j x) : i = j := by
  rcases Nat.lt_trichotomy i j with q | q | q
  · have := pop_mono x (show i + 1 ≤ j from q)
    rw [pop_succ, hi] at this; simp at this; omega
  · exact q
  · have := pop_mono x (show j + 1 ≤ i from q)
    rw [pop_succ, hj] at this; simp at this; omega
end Go.Proofs.MP
end
/- Counts of ones, places of bits, counts beside rows; in plain Lean. Of no function of the program. -/
section
set_option linter.unusedVariables false
set_option linter.unusedSimpArgs false
set_option linter.unusedSectionVars false
namespace Go.Proofs.MR
open Go.Proofs.MV Go.Proofs.MP
set_option linter.unusedVariables false
/-- How many of the first i bits are 1. -/
def cnt (l : List Bool) : Nat → Nat
  | 0 => 0
  | i + 1 => cnt l i + (bt l i).toNat
theorem cnt_le (l : List Bool) : ∀ i, cnt l i ≤ i
  | 0 => Nat.le_refl _
  | i + 1 => by have := cnt_le l i; have := Bool.toNat_lt (bt l i); unfold cnt; omega
theorem cnt_mono (l : List Bool) {i j : Nat} (h : i ≤ j) : cnt l i ≤ cnt l j := by
  induction h with
  | refl => exact Nat.le_refl _
  | step _ ih => show _ ≤ cnt l _ + _; omega
theorem cnt_gap (l : List Bool) (i : Nat) : ∀ d, cnt l (i + d) ≤ cnt l i + d
  | 0 => Nat.le_refl _
  | d + 1 => by have := cnt_gap l i d; have := Bool.toNat_lt (bt l (i + d)); show cnt l (i + d) + (bt l (i + d)).toNat ≤ _; omega
theorem cnt_out (l : List Bool) (i : Nat) (h : l.length ≤ i) : cnt l i = cnt l l.length := by
  induction h with
  | refl => rfl
  | step h ih => show cnt l _ + _ = _; rw [bt_out l _ h, ih]; rfl
theorem cnt_word (l : List Bool) (j : Nat) : ∀ i, i ≤ 64 → cnt l (64 * j + i) = cnt l (64 * j) + pop i (wN l j)
  | 0, _ => rfl
  | i + 1, h => by
    rw [pop_succ, wN_bit, decide_eq_true (show i < 64 by omega), Bool.true_and]
    show cnt l (64 * j + i) + (bt l (64 * j + i)).toNat = _
    rw [cnt_word l j i (by omega)]; omega
theorem cnt_take (l : List Bool) : ∀ i, i ≤ l.length → (l.take i).count true = cnt l i
  | 0, _ => by simp [cnt]
  | i + 1, h => by
    rw [List.take_succ_eq_append_getElem (by omega), List.count_append, cnt_take l i (by omega)]
    show _ = cnt l i + (bt l i).toNat
    unfold bt
    rw [List.getD_eq_getElem?_getD, List.getElem?_eq_getElem (show i < l.length by omega)]
    cases l[i] <;> simp
/-- Bits b ahead of a place. -/
def rk (b : Bool) (l : List Bool) (i : Nat) : Nat := if b then cnt l i else i - cnt l i
theorem rk_le (b : Bool) (l : List Bool) (i : Nat) : rk b l i ≤ i := by unfold rk; have := cnt_le l i; split <;> omega
theorem rk_succ (b : Bool) (l : List Bool) (i : Nat) : rk b l (i + 1) = rk b l i + (bt l i == b).toNat := by
  have := cnt_le l i
  unfold rk
  show (if b then cnt l i + (bt l i).toNat else i + 1 - (cnt l i + (bt l i).toNat)) = _
  cases b <;> cases bt l i <;> simp <;> omega
theorem rk_mono (b : Bool) (l : List Bool) {i j : Nat} (h : i ≤ j) : rk b l i ≤ rk b l j := by
  induction h with
  | refl => exact Nat.le_refl _
  | step _ ih => rw [rk_succ]; omega
theorem rk_uniq (b : Bool) (l : List Bool) {i j : Nat} (hi : bt l i = b) (hj : bt l j = b) (h : rk b l i = rk b l j) : i = j := by
  rcases Nat.lt_trichotomy i j with q | q | q
  · have := rk_mono b l (show i + 1 ≤ j from q)
    rw [rk_succ, hi] at this; simp at this; omega
  · exact q
  · have := rk_mono b l (show j + 1 ≤ i from q)
    rw [rk_succ, hj] at this; simp at this; omega
/-- p is the place of the bit b with k such ahead. -/
structure Sel (b : Bool) (l : List Bool) (k p : Nat) : Prop where
  lt : p < l.length
  bit : bt l p = b
  rank : rk b l p = k
theorem sel_lt {b : Bool} {l : List Bool} {k p : Nat} (h : Sel b l k p) : k < rk b l l.length := by
  have := rk_mono b l (show p + 1 ≤ l.length from h.lt)
  rw [rk_succ, h.bit, h.rank] at this; simp at this; omega
/-- Counts beside a row. -/
def sup (l : List Bool) : List Int := (List.range (l.length / 512 + 1)).map fun i => (cnt l (512 * i) : Int)
def sub (l : List Bool) : List Int := (List.range ((l.length + 63) / 64)).map fun j => ((cnt l (64 * j) - cnt l (512 * (j / 8)) : Nat) : Int)
end Go.Proofs.MR
end
/- Ways to choose, and the number of a word among those with as many ones; in plain Lean. Of no function of the program. -/
section
set_option linter.unusedVariables false
set_option linter.unusedSimpArgs false
set_option linter.unusedSectionVars false
namespace Go.Proofs.MB
open Go.Proofs.MP
set_option linter.unusedVariables false
def ch : Nat → Nat → Nat
  | _, 0 => 1
  | 0, _ + 1 => 0
  | n + 1, k + 1 => ch n k + ch n (k + 1)
theorem ch_zero (n : Nat) : ch n 0 = 1 := by cases n <;> rfl
theorem ch_out : ∀ n k, n < k → ch n k = 0
  | 0, k + 1, _ => rfl
  | n + 1, k + 1, h => by
    show ch n k + ch n (k + 1) = 0
    rw [ch_out n k (by omega), ch_out n (k + 1) (by omega)]
theorem ch_le : ∀ n k, ch n k ≤ 2 ^ n
  | n, 0 => by rw [ch_zero]; exact Nat.two_pow_pos n
  | 0, k + 1 => by simp [ch]
  | n + 1, k + 1 => by
    show ch n k + ch n (k + 1) ≤ _
    have := ch_le n k; have := ch_le n (k + 1)
    rw [Nat.pow_succ]; omega
theorem ch_pos : ∀ n k, k ≤ n → 0 < ch n k
  | n, 0, _ => by rw [ch_zero]; decide
  | n + 1, k + 1, h => by
    show 0 < ch n k + ch n (k + 1)
    have := ch_pos n k (by omega); omega
theorem pop_le (x : Nat) : ∀ n, pop n x ≤ n
  | 0 => Nat.le_refl _
  | n + 1 => by rw [pop_succ]; have := pop_le x n; have := Bool.toNat_lt (x.testBit n); omega
/-- The number of the lowest n bits among those of as many ones. -/
def enc (x : Nat) : Nat → Nat
  | 0 => 0
  | n + 1 => (if x.testBit n then ch n (pop (n + 1) x) else 0) + enc x n
theorem enc_lt (x : Nat) : ∀ n, enc x n < ch n (pop n x)
  | 0 => by simp [enc, pop, ch]
  | n + 1 => by
    have ih := enc_lt x n
    unfold enc
    rw [pop_succ]
    cases h : x.testBit n
    · simp
      cases hp : pop n x with
      | zero => rw [hp] at ih; rw [ch_zero] at ih ⊢; omega
      | succ k => rw [hp] at ih; show enc x n < ch n k + ch n (k + 1); omega
    · simp
      show ch n (pop n x + 1) + enc x n < ch n (pop n x) + ch n (pop n x + 1)
      omega
/-- A word again. -/
def dec : Nat → Nat → Nat → Nat
  | 0, _, _ => 0
  | n + 1, k, off => if k = 0 then 0 else if ch n k ≤ off then 2 ^ n + dec n (k - 1) (off - ch n k) else dec n k off
theorem dec_enc (x : Nat) : ∀ n, dec n (pop n x) (enc x n) = x % 2 ^ n
  | 0 => by simp [dec, Nat.mod_one]
  | n + 1 => by
    have ih := dec_enc x n
    have hl := enc_lt x n
    have e : x % 2 ^ (n + 1) = 2 ^ n * (x.testBit n).toNat + x % 2 ^ n := by
      rw [Nat.testBit_eq_decide_div_mod_eq, Nat.pow_succ, Nat.mod_mul]
      have := Nat.mod_lt (x / 2 ^ n) (show 0 < 2 by decide)
      by_cases h : x / 2 ^ n % 2 = 1
      · simp [h]; omega
      · have : x / 2 ^ n % 2 = 0 := by omega
        simp [this]
    unfold dec enc
    rw [e, pop_succ]
    cases h : x.testBit n
    · simp
      by_cases h0 : pop n x = 0
      · rw [if_pos h0, ← ih, h0]
        cases n <;> simp [dec]
      · rw [if_neg h0, if_neg (by omega), ih]
    · simp
      rw [ih]
/-- A row of the triangle, 63 numbers; on its way to the next one. -/
def rowL (i : Nat) : List Nat := (List.range 63).map (ch i)
def tri (i k : Nat) : List Nat := (List.range 63).map fun j => if k < j then ch (i + 1) j else ch i j
theorem rowL_length (i : Nat) : (rowL i).length = 63 := by simp [rowL]
theorem tri_length (i k : Nat) : (tri i k).length = 63 := by simp [tri]
theorem natmap_getD {f : Nat → Nat} {n j : Nat} (h : j < n) : ((List.range n).map f).getD j 0 = f j := by
  rw [List.getD_eq_getElem?_getD, List.getElem?_map, List.getElem?_range h]; rfl
theorem rowL_getD (i j : Nat) (h : j < 63) : (rowL i).getD j 0 = ch i j := natmap_getD h
theorem tri_getD (i k j : Nat) (h : j < 63) : (tri i k).getD j 0 = if k < j then ch (i + 1) j else ch i j := natmap_getD h
theorem tri_start (i : Nat) : tri i (i + 1) = rowL i := by
  unfold tri rowL
  refine List.map_congr_left fun j _ => ?_
  split
  · rw [ch_out _ _ (by omega), ch_out _ _ (by omega)]
  · rfl
theorem tri_end (i : Nat) : tri i 0 = rowL (i + 1) := by
  unfold tri rowL
  refine List.map_congr_left fun j _ => ?_
  split
  · rfl
  · obtain rfl : j = 0 := by omega
    rw [ch_zero, ch_zero]
theorem tri_step (i k : Nat) (h : k + 1 < 63) : tri i k = (tri i (k + 1)).set (k + 1) (ch i (k + 1) + ch i k) := by
  apply List.ext_getElem
  · simp [tri_length]
  · intro j h1 h2
    rw [tri_length] at h1
    rw [List.getElem_set]
    have e : ∀ q, (tri i q)[j]'(by rw [tri_length]; exact h1) = if q < j then ch (i + 1) j else ch i j := fun q => by simp [tri]
    rw [e, e]
    by_cases q : k + 1 = j
    · subst q
      rw [if_pos rfl, if_pos (by omega)]
      show ch i k + ch i (k + 1) = _
      omega
    · rw [if_neg q]
      by_cases z : k < j
      · rw [if_pos z, if_pos (by omega)]
      · rw [if_neg z, if_neg (by omega)]
end Go.Proofs.MB
end
/- The tower: rows of bits as values. Of no function. -/
section
set_option linter.unusedVariables false
set_option linter.unusedSimpArgs false
set_option linter.unusedSectionVars false
namespace Go.Proofs.E
open Go Go.Proofs.MV
set_option linter.unusedVariables false
/-- The words of a row of bits. -/
def wn (l : List Bool) (m : Nat) : List Nat := (List.range m).map (wN l)
theorem wn_length (l : List Bool) (m : Nat) : (wn l m).length = m := by simp [wn]
theorem wn_getD (l : List Bool) (m j : Nat) (h : j < m) : (wn l m).getD j 0 = wN l j := by
  unfold wn
  rw [List.getD_eq_getElem?_getD, List.getElem?_map, List.getElem?_range h]; rfl
def wc (l : List Bool) : Nat := (l.length + 63) / 64
def bitsV (l : List Bool) : V := .agg [.i .i64 (l.length : Nat), .sl false (wc l) (nums .u64 (wn l (wc l)))]
theorem bit_nat (l : List Bool) (i : Nat) : decide (wN l (i / 64) / 2 ^ (i % 64) % 2 = 1) = bt l i := by
  have h := bit_read l i
  have e : ((wN l (i / 64) : Nat) : Int) / 2 ^ (i % 64) % 2 = ((wN l (i / 64) / 2 ^ (i % 64) % 2 : Nat) : Int) := by
    rw [Int.natCast_emod, Int.natCast_ediv]; simp
  rw [e] at h
  cases hb : bt l i <;> rw [hb] at h <;> simp at h ⊢ <;> omega
theorem cnt_t {l : List Bool} {i : Nat} (h : bt l i = true) : MR.cnt l (i + 1) = MR.cnt l i + 1 := by simp only [MR.cnt, h]; rfl
theorem cnt_f {l : List Bool} {i : Nat} (h : bt l i = false) : MR.cnt l (i + 1) = MR.cnt l i := by simp only [MR.cnt, h]; rfl
theorem onCb {a b : St → Prop} {s : St} {x : Bool} (h1 : x = true → a s) (h2 : x = false → b s) : onC (.b x) a b s := by
  cases x
  · exact h2 rfl
  · exact h1 rfl
theorem wn_ext {l l' : List Bool} {m : Nat} (h : ∀ j, j < m → wN l j = wN l' j) : wn l m = wn l' m := by
  unfold wn
  exact List.map_congr_left fun j hj => h j (List.mem_range.1 hj)
/-- The first i bits, and noughts. -/
def uptoB (l : List Bool) (i : Nat) : List Bool := l.take i ++ List.replicate (l.length - i) false
theorem uptoB_length (l : List Bool) {i : Nat} (h : i ≤ l.length) : (uptoB l i).length = l.length := by simp [uptoB]; omega
theorem uptoB_all (l : List Bool) : uptoB l l.length = l := by simp [uptoB]
theorem uptoB_bt (l : List Bool) (i j : Nat) : bt (uptoB l i) j = (decide (j < i) && bt l j) := by
  unfold uptoB bt
  simp only [List.getD_eq_getElem?_getD]
  by_cases h : j < (l.take i).length
  · rw [List.getElem?_append_left h, List.getElem?_take]
    have : j < i := by simp at h; omega
    simp [this]
  · rw [List.getElem?_append_right (by omega), List.getElem?_replicate]
    simp at h
    by_cases e : j < i
    · have : l.length ≤ j := by omega
      simp [e, List.getElem?_eq_none this]
      split <;> rfl
    · simp [e]
      split <;> rfl
theorem wn_zero (l : List Bool) (m : Nat) : wn (uptoB l 0) m = List.replicate m 0 := by
  apply List.ext_getElem (by simp [wn])
  intro j h1 h2
  simp [wn]
  apply Nat.eq_of_testBit_eq
  intro i
  rw [wN_bit, uptoB_bt]
  simp
theorem set_wn {l l' : List Bool} {m k x : Nat} (h : ∀ j, j < m → wN l' j = if j = k then x else wN l j) : (wn l m).set k x = wn l' m := by
  apply List.ext_getElem (by simp [wn])
  intro j h1 h2
  simp [wn] at h1
  rw [List.getElem_set]
  simp only [wn, List.getElem_map, List.getElem_range, h j h1, eq_comm]
theorem wN_or {l l' : List Bool} {i : Nat} (h : ∀ j, bt l' j = (decide (j = i) || bt l j)) (j : Nat) : wN l' j = if j = i / 64 then wN l (i / 64) ||| 2 ^ (i % 64) else wN l j := by
  apply Nat.eq_of_testBit_eq
  intro k
  split
  · rename_i e
    subst e
    rw [Nat.testBit_or, wN_bit, wN_bit, Nat.testBit_two_pow, h]
    by_cases hk : k < 64
    · by_cases e : 64 * (i / 64) + k = i
      · have : i % 64 = k := by omega
        simp [e, this, hk]
      · have : ¬ i % 64 = k := by omega
        simp [e, this, hk]
    · have : ¬ i % 64 = k := by omega
      simp [hk, this]
  · rename_i e
    rw [wN_bit, wN_bit, h]
    by_cases hk : k < 64
    · have : ¬ 64 * j + k = i := by omega
      simp [this]
    · simp [hk]
theorem wN_off {l l' : List Bool} {i : Nat} (h : ∀ j, bt l' j = (decide (j ≠ i) && bt l j)) (j : Nat) : wN l' j = if j = i / 64 then wN l (i / 64) &&& (2 ^ 64 - (2 ^ (i % 64) + 1)) else wN l j := by
  apply Nat.eq_of_testBit_eq
  intro k
  split
  · rename_i e
    subst e
    rw [Nat.testBit_and, wN_bit, wN_bit, Nat.testBit_two_pow_sub_succ (Nat.pow_lt_pow_right (by decide) (Nat.mod_lt _ (by decide))), Nat.testBit_two_pow, h]
    by_cases hk : k < 64
    · by_cases e : 64 * (i / 64) + k = i
      · have : i % 64 = k := by omega
        simp [e, this]
      · have : ¬ i % 64 = k := by omega
        simp [e, this, hk]
    · simp [hk]
  · rename_i e
    rw [wN_bit, wN_bit, h]
    by_cases hk : k < 64
    · have : ¬ 64 * j + k = i := by omega
      simp [this]
    · simp [hk]
theorem or_off {w e : Nat} (hw : w < 2 ^ 64) (he : e < 64) : (w &&& (18446744073709551616 - (2 ^ e + 1)) ||| 2 ^ e) = (w ||| 2 ^ e) := by
  apply Nat.eq_of_testBit_eq
  intro k
  rw [show (18446744073709551616 : Nat) = 2 ^ 64 from rfl, Nat.testBit_or, Nat.testBit_and, Nat.testBit_two_pow_sub_succ (Nat.pow_lt_pow_right (by decide) he), Nat.testBit_two_pow, Nat.testBit_or, Nat.testBit_two_pow]
  by_cases h : e = k
  · simp [h]
  · by_cases hk : k < 64
    · simp [h, hk]
    · rw [Nat.testBit_lt_two_pow (Nat.lt_of_lt_of_le hw (Nat.pow_le_pow_right (by decide) (show 64 ≤ k by omega)))]
      simp [h]
theorem bit_lt (l : List Bool) (i : Nat) : wN l (i / 64) / 2 ^ (i % 64) < 2 ^ 64 := Nat.lt_of_le_of_lt (Nat.div_le_self _ _) (wN_lt _ _)
theorem cnt_words (l : List Bool) (j : Nat) : MR.cnt l (64 * (j + 1)) = MR.cnt l (64 * j) + MP.pop 64 (wN l j) := MR.cnt_word l j 64 (Nat.le_refl _)
theorem take_getD {l : List Nat} {n i d : Nat} (h : i < n) : (l.take n).getD i d = l.getD i d := by rw [List.getD_eq_getElem?_getD, List.getElem?_take, if_pos h, ← List.getD_eq_getElem?_getD]
theorem wn_pad (l : List Bool) (m : Nat) (h : wc l ≤ m) : wn l (wc l) ++ (List.replicate m 0).drop (wc l) = wn l m := by
  apply List.ext_getElem (by simp [wn]; omega)
  intro j h1 h2
  by_cases hj : j < wc l
  · rw [List.getElem_append_left (by simp [wn]; omega)]
    simp [wn]
  · rw [List.getElem_append_right (by simp [wn]; omega)]
    simp [wn]
    rw [wN_out l j (by unfold wc at hj; omega)]
theorem wn_fill_none (l : List Bool) (x k m : Nat) (hx : x < 2 ^ k) (hk : k ≤ 64) (h : m ≤ l.length / 64) : wn (l ++ bitsOf x k) m = wn l m := wn_ext fun j hj => by
  rw [wN_fill l x k j hx hk, if_neg (by omega), if_neg (by omega)]
theorem setSelf {H : Heap} {b : Nat} {k : Blk} (h : H[b]? = some k) : H.set b k = H := by
  obtain ⟨hb, rfl⟩ := List.getElem?_eq_some_iff.1 h
  exact List.set_getElem_self hb
theorem fill_one (l : List Bool) (x k m : Nat) (hx : x < 2 ^ k) (hk : k ≤ 64) (h : ¬ (0 < l.length % 64 ∧ l.length / 64 + 1 < m)) : (wn l m).set (l.length / 64) (wN l (l.length / 64) ||| x * 2 ^ (l.length % 64) % 18446744073709551616) = wn (l ++ bitsOf x k) m := set_wn fun j hj => by
  rw [wN_fill l x k j hx hk]
  by_cases e : j = l.length / 64
  · subst e; rw [if_pos rfl, if_pos rfl]
  · rw [if_neg e, if_neg e, if_neg (by omega)]
theorem fill_two (l : List Bool) (x k m : Nat) (hx : x < 2 ^ k) (hk : k ≤ 64) (h : 0 < l.length % 64) : ((wn l m).set (l.length / 64) (wN l (l.length / 64) ||| x * 2 ^ (l.length % 64) % 18446744073709551616)).set (l.length / 64 + 1) (wN l (l.length / 64 + 1) ||| x / 2 ^ (64 - l.length % 64)) = wn (l ++ bitsOf x k) m := by
  apply List.ext_getElem (by simp [wn])
  intro j h1 h2
  simp only [List.length_set, wn_length] at h1
  rw [List.getElem_set, List.getElem_set]
  simp only [wn, List.getElem_map, List.getElem_range]
  rw [wN_fill l x k j hx hk]
  by_cases e : j = l.length / 64
  · subst e; rw [if_neg (by omega), if_pos rfl, if_pos rfl]
  · by_cases e2 : j = l.length / 64 + 1
    · subst e2; rw [if_pos rfl, if_neg (by omega), if_pos ⟨rfl, h⟩]
    · rw [if_neg (by omega), if_neg (by omega), if_neg e, if_neg (by omega)]
theorem getD_set_ne {l : List Nat} {i j x d : Nat} (h : i ≠ j) : (l.set i x).getD j d = l.getD j d := by
  rw [List.getD_eq_getElem?_getD, List.getElem?_set_ne h, ← List.getD_eq_getElem?_getD]
theorem upto_next (l : List Bool) (i : Nat) (j : Nat) : bt (uptoB l (i + 1)) j = if j = i then bt l i else bt (uptoB l i) j := by
  rw [uptoB_bt, uptoB_bt]
  by_cases e : j = i
  · subst e; simp
  · rw [if_neg e]
    congr 1
    by_cases h : j < i
    · simp [h, Nat.lt_succ_of_lt h]
    · have : ¬ j < i + 1 := by omega
      simp [h, this]
end Go.Proofs.E
end
