/- Rows of bits in words of 64, in plain Lean: what filling them keeps. No function of the program. -/
import Derived.Laws.BitsLemmas
namespace Go.Proofs.MathBits
open Go (IntKind bits)
set_option linter.unusedVariables false

def bitN (ws : List Nat) (i : Nat) : Bool := (ws.getD (i / 64) 0).testBit (i % 64)
structure Valid (n : Nat) (ws : List Nat) : Prop where
  len : ws.length = (n + 63) / 64
  lt : ∀ j, ws.getD j 0 < 2 ^ 64
  off : ∀ i, n ≤ i → bitN ws i = false
def fillN (ws : List Nat) (n x : Nat) : List Nat :=
  let w1 := if n / 64 < ws.length then ws.set (n / 64) (ws.getD (n / 64) 0 ||| x * 2 ^ (n % 64) % 2 ^ 64) else ws
  if 0 < n % 64 then (if n / 64 + 1 < ws.length then w1.set (n / 64 + 1) (w1.getD (n / 64 + 1) 0 ||| x / 2 ^ (64 - n % 64)) else w1) else w1
def ownN (ws : List Nat) (m : Nat) : List Nat := (ws ++ List.replicate m 0).take m
theorem ownN_length (ws : List Nat) (m : Nat) : (ownN ws m).length = m := by simp [ownN]
theorem ownN_get (ws : List Nat) (m : Nat) (h : ws.length ≤ m) (j : Nat) : (ownN ws m).getD j 0 = ws.getD j 0 := by
  unfold ownN
  simp only [List.getD_eq_getElem?_getD]
  rcases Nat.lt_or_ge j m with hj | hj
  · rw [List.getElem?_take_of_lt hj]
    rcases Nat.lt_or_ge j ws.length with h1 | h1
    · rw [List.getElem?_append_left h1]
    · rw [List.getElem?_append_right h1, List.getElem?_replicate, if_pos (by omega), List.getElem?_eq_none h1]
      rfl
  · rw [List.getElem?_eq_none (by simp; omega), List.getElem?_eq_none (by omega)]
theorem getD_set (ws : List Nat) (i j v : Nat) (h : i < ws.length) : (ws.set i v).getD j 0 = if j = i then v else ws.getD j 0 := by
  simp only [List.getD_eq_getElem?_getD]
  by_cases e : j = i
  · subst e
    rw [if_pos rfl, List.getElem?_set_self h]; rfl
  · rw [if_neg e, List.getElem?_set_ne (Ne.symm e)]
theorem fillN_length (ws : List Nat) (n x : Nat) : (fillN ws n x).length = ws.length := by
  unfold fillN
  dsimp only
  (repeat' split) <;> simp
theorem fillN_get (ws : List Nat) (n x j : Nat) : (fillN ws n x).getD j 0 =
    if j = n / 64 ∧ n / 64 < ws.length then ws.getD j 0 ||| x * 2 ^ (n % 64) % 2 ^ 64
    else if j = n / 64 + 1 ∧ 0 < n % 64 ∧ n / 64 + 1 < ws.length then ws.getD j 0 ||| x / 2 ^ (64 - n % 64) else ws.getD j 0 := by
  have h1 : ∀ j, (if n / 64 < ws.length then ws.set (n / 64) (ws.getD (n / 64) 0 ||| x * 2 ^ (n % 64) % 2 ^ 64) else ws).getD j 0 = if j = n / 64 ∧ n / 64 < ws.length then ws.getD j 0 ||| x * 2 ^ (n % 64) % 2 ^ 64 else ws.getD j 0 := by
    intro j
    by_cases h : n / 64 < ws.length
    · rw [if_pos h, getD_set _ _ _ _ h]
      by_cases e : j = n / 64
      · rw [if_pos e, if_pos ⟨e, h⟩, e]
      · rw [if_neg e, if_neg (fun x => e x.1)]
    · rw [if_neg h, if_neg (fun x => h x.2)]
  have hl : (if n / 64 < ws.length then ws.set (n / 64) (ws.getD (n / 64) 0 ||| x * 2 ^ (n % 64) % 2 ^ 64) else ws).length = ws.length := by split <;> simp
  unfold fillN
  dsimp only
  generalize hw : (if n / 64 < ws.length then ws.set (n / 64) (ws.getD (n / 64) 0 ||| x * 2 ^ (n % 64) % 2 ^ 64) else ws) = w1 at h1 hl ⊢
  by_cases c1 : 0 < n % 64
  · rw [if_pos c1]
    by_cases c2 : n / 64 + 1 < ws.length
    · rw [if_pos c2, getD_set _ _ _ _ (by omega)]
      by_cases e : j = n / 64 + 1
      · rw [if_pos e, h1, if_neg (by omega), if_neg (by omega), if_pos ⟨e, c1, c2⟩, e]
      · rw [if_neg e, h1]
        split
        · rfl
        · rw [if_neg (fun x => e x.1)]
    · rw [if_neg c2, h1]
      split
      · rfl
      · rw [if_neg (fun x => c2 x.2.2)]
  · rw [if_neg c1, h1]
    split
    · rfl
    · rw [if_neg (fun x => c1 x.2.1)]
/-- The bits behind a fill. -/
theorem fill_bit (ws : List Nat) (n k x : Nat) (hx : x < 2 ^ k) (hk : k ≤ 64) (hl : ws.length = (n + k + 63) / 64) (i : Nat) :
    bitN (fillN ws n x) i = (bitN ws i || (decide (n ≤ i) && x.testBit (i - n))) := by
  have small : ∀ j, k ≤ j → x.testBit j = false := fun j hj => Nat.testBit_lt_two_pow (Nat.lt_of_lt_of_le hx (Nat.pow_le_pow_right (by decide) hj))
  unfold bitN
  rw [fillN_get]
  by_cases c1 : i / 64 = n / 64 ∧ n / 64 < ws.length
  · rw [if_pos c1, Nat.testBit_or, Nat.testBit_mod_two_pow, Nat.testBit_mul_two_pow, decide_eq_true (show i % 64 < 64 by omega), Bool.true_and]
    congr 1
    by_cases h : n ≤ i
    · rw [decide_eq_true h, decide_eq_true (show n % 64 ≤ i % 64 by omega), show i % 64 - n % 64 = i - n by omega]
    · rw [decide_eq_false h, decide_eq_false (show ¬ n % 64 ≤ i % 64 by omega)]
      simp
  · rw [if_neg c1]
    by_cases c2 : i / 64 = n / 64 + 1 ∧ 0 < n % 64 ∧ n / 64 + 1 < ws.length
    · rw [if_pos c2, Nat.testBit_or, Nat.testBit_div_two_pow]
      congr 1
      rw [decide_eq_true (show n ≤ i by omega), Bool.true_and, show i % 64 + (64 - n % 64) = i - n by omega]
    · rw [if_neg c2]
      by_cases h : n ≤ i
      · rw [small (i - n) (by
          by_cases hi : i < 64 * ws.length
          · by_cases e : i / 64 = n / 64
            · exact absurd ⟨e, by omega⟩ c1
            · by_cases e2 : i / 64 = n / 64 + 1
              · by_cases h0 : 0 < n % 64
                · exact absurd ⟨e2, h0, by omega⟩ c2
                · omega
              · omega
          · omega)]
        simp
      · rw [decide_eq_false h]
        simp
theorem append_valid {n k x : Nat} {ws : List Nat} (hv : Valid n ws) (hx : x < 2 ^ k) (hk : k ≤ 64) :
    Valid (n + k) (fillN (ownN ws ((n + k + 63) / 64)) n x) ∧ ∀ i, bitN (fillN (ownN ws ((n + k + 63) / 64)) n x) i = (bitN ws i || (decide (n ≤ i) && x.testBit (i - n))) := by
  have hl := hv.len
  have hg := ownN_get ws ((n + k + 63) / 64) (by omega)
  have hb : ∀ i, bitN (fillN (ownN ws ((n + k + 63) / 64)) n x) i = (bitN ws i || (decide (n ≤ i) && x.testBit (i - n))) := by
    intro i
    rw [fill_bit _ n k x hx hk (ownN_length _ _)]
    unfold bitN
    rw [hg]
  refine ⟨⟨by rw [fillN_length, ownN_length], fun j => ?_, fun i hi => ?_⟩, hb⟩
  · have hx64 : x < 2 ^ 64 := Nat.lt_of_lt_of_le hx (Nat.pow_le_pow_right (by decide) hk)
    rw [fillN_get]
    split
    · exact Nat.or_lt_two_pow (by rw [hg]; exact hv.lt j) (Nat.mod_lt _ (by decide))
    · split
      · exact Nat.or_lt_two_pow (by rw [hg]; exact hv.lt j) (Nat.lt_of_le_of_lt (Nat.div_le_self _ _) hx64)
      · rw [hg]; exact hv.lt j
  · rw [hb, hv.off i (by omega), Nat.testBit_lt_two_pow (Nat.lt_of_lt_of_le hx (Nat.pow_le_pow_right (by decide) (show k ≤ i - n by omega)))]
    simp
/-- The last word keeps under its mask. -/
theorem last_small {n : Nat} {ws : List Nat} (hv : Valid n ws) (h : 0 < n % 64) : ws.getD (ws.length - 1) 0 < 2 ^ (n % 64) := by
  have hl := hv.len
  apply Nat.lt_pow_two_of_testBit
  intro i hi
  by_cases h64 : i < 64
  · have := hv.off (64 * (ws.length - 1) + i) (by omega)
    unfold bitN at this
    rw [show (64 * (ws.length - 1) + i) / 64 = ws.length - 1 by omega, show (64 * (ws.length - 1) + i) % 64 = i by omega] at this
    exact this
  · exact Nat.testBit_lt_two_pow (Nat.lt_of_lt_of_le (hv.lt _) (Nat.pow_le_pow_right (by decide) (by omega)))
/-! ### As the machine's numbers -/
theorem w64u (n : Int) (h0 : 0 ≤ n) (h1 : n < 2 ^ 64) : IntKind.u64.wrap n = n := by
  have : IntKind.u64.wrap n = n % 18446744073709551616 := by simp [IntKind.wrap, IntKind.bits, IntKind.signed]
  rw [this]
  omega
theorem or_nat (a b : Nat) (ha : a < 2 ^ 64) (hb : b < 2 ^ 64) : bits .or .u64 (a : Int) (b : Int) = ((a ||| b : Nat) : Int) := (Go.bits_nat .u64 64 (by decide) w64u a b ha hb).2
theorem and_nat (a b : Nat) (ha : a < 2 ^ 64) (hb : b < 2 ^ 64) : bits .and .u64 (a : Int) (b : Int) = ((a &&& b : Nat) : Int) := (Go.bits_nat .u64 64 (by decide) w64u a b ha hb).1
theorem and_mask (a k : Nat) (ha : a < 2 ^ 64) (hk : k ≤ 64) : bits .and .u64 (a : Int) ((2 ^ k - 1 : Nat) : Int) = ((a % 2 ^ k : Nat) : Int) := by
  rw [and_nat a _ ha (Nat.lt_of_lt_of_le (Nat.sub_lt (Nat.two_pow_pos k) (by decide)) (Nat.pow_le_pow_right (by decide) hk)), Nat.and_two_pow_sub_one_eq_mod]
theorem andNot_zero (a k : Nat) (hk : k ≤ 64) (ha : a < 2 ^ k) : bits .andNot .u64 (a : Int) ((2 ^ k - 1 : Nat) : Int) = 0 := by
  have h64 : a < 2 ^ 64 := Nat.lt_of_lt_of_le ha (Nat.pow_le_pow_right (by decide) hk)
  have e : BitVec.ofInt 64 (a : Int) &&& ~~~ BitVec.ofInt 64 ((2 ^ k - 1 : Nat) : Int) = 0#64 := by
    apply BitVec.eq_of_getLsbD_eq
    intro i hi
    rw [BitVec.getLsbD_and, BitVec.getLsbD_not, BitVec.ofInt_natCast, BitVec.ofInt_natCast, BitVec.getLsbD_ofNat, BitVec.getLsbD_ofNat, BitVec.getLsbD_zero, Nat.testBit_two_pow_sub_one]
    by_cases h : i < k
    · simp [h, hi]
    · rw [Nat.testBit_lt_two_pow (Nat.lt_of_lt_of_le ha (Nat.pow_le_pow_right (by decide) (show k ≤ i by omega)))]
      simp
  show IntKind.u64.wrap ((BitVec.ofInt 64 (a : Int) &&& ~~~ BitVec.ofInt 64 ((2 ^ k - 1 : Nat) : Int)).toNat : Int) = 0
  rw [e]
  rfl
/-! ### A code's bits, turned round -/
def rev (c : Nat) : Nat → Nat
  | 0 => 0
  | t + 1 => 2 * rev c t + c / 2 ^ t % 2
theorem rev_lt (c : Nat) : ∀ t, rev c t < 2 ^ t
  | 0 => Nat.one_pos
  | t + 1 => by
    have := rev_lt c t
    unfold rev
    rw [Nat.pow_succ]
    omega
theorem rev_bit (c : Nat) : ∀ t j, j < t → (rev c t).testBit j = c.testBit (t - 1 - j)
  | 0, j, h => absurd h (Nat.not_lt_zero _)
  | t + 1, 0, _ => by
    unfold rev
    rw [Nat.testBit_zero]
    show _ = c.testBit t
    rw [Nat.testBit_eq_decide_div_mod_eq]
    congr 1
    have : (2 * rev c t + c / 2 ^ t % 2) % 2 = c / 2 ^ t % 2 := by omega
    rw [this]
  | t + 1, j + 1, h => by
    unfold rev
    rw [Nat.testBit_succ, show (2 * rev c t + c / 2 ^ t % 2) / 2 = rev c t by omega, rev_bit c t j (by omega)]
    congr 1
    omega
theorem top_step (c L j : Nat) (h : j < L) : c / 2 ^ (L - (j + 1)) = 2 * (c / 2 ^ (L - j)) + (c.testBit (L - 1 - j)).toNat := by
  rw [Nat.testBit_eq_decide_div_mod_eq, show L - 1 - j = L - (j + 1) by omega, show L - j = L - (j + 1) + 1 by omega, Nat.pow_succ, ← Nat.div_div_eq_div_mul]
  generalize c / 2 ^ (L - (j + 1)) = y
  by_cases h : y % 2 = 1
  · simp [h]; omega
  · simp [h]; omega
end Go.Proofs.MathBits
