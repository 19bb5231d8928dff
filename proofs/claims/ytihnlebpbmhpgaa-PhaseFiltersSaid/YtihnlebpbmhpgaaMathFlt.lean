/- Whole numbers as floats: which words stand for them, and that sums and products of such words are such words. No program in it. -/
import Ieee.Arith
namespace Go.Proofs.MathFlt
open Ieee
set_option linter.unusedVariables false
set_option linter.unusedSimpArgs false

/-- Word x stands for the whole number n (noughts: either sign). -/
def Rep (x : Nat) (n : Int) : Prop := ∃ s m k, double.read x = .number s m (-(k : Nat) : Int) ∧ signed s m 0 = n * ((2 ^ k : Nat) : Int)

theorem signed0 (s : Bool) (m : Nat) : signed s m 0 = if s then -(m : Int) else (m : Int) := by
  unfold signed
  simp
theorem signed_sh (s : Bool) (m u : Nat) : signed s m u = signed s m 0 * ((2 ^ u : Nat) : Int) := by
  unfold signed
  rw [Nat.shiftLeft_eq, Nat.shiftLeft_zero]
  cases s
  · simp
  · simp [Int.neg_mul]
theorem read_word (s : Bool) (r : Nat) (h0 : 2 ^ 52 ≤ r) (h1 : r < 2047 * 2 ^ 52) : double.read (double.word s r) = .number s (2 ^ 52 + r % 2 ^ 52) (-1074 + (r / 2 ^ 52 - 1 : Nat)) := by
  have hd : double.word s r / 2 ^ 63 % 2 = s.toNat ∧ double.word s r % 2 ^ 63 = r := by
    unfold Format.word
    have : double.signWeight = 2 ^ 63 := by decide
    rw [this]
    cases s
    · rw [if_neg (by decide)]; constructor
      · rw [Nat.div_eq_of_lt (by omega)]; rfl
      · exact Nat.mod_eq_of_lt (by omega)
    · rw [if_pos rfl]; constructor
      · show _ = 1; omega
      · omega
  unfold Format.read
  have e1 : double.signWeight = 2 ^ 63 := by decide
  have e2 : double.binade = 2 ^ 52 := by decide
  have e3 : double.infRung = 2047 * 2 ^ 52 := by decide
  have e4 : double.leastPlace = -1074 := by decide
  simp only [e1, e2, e3, e4, hd.1, hd.2]
  rw [if_neg (by omega), if_pos h1]
  cases s <;> rfl
theorem read_zero (s : Bool) : double.read (double.word s 0) = .number s 0 (-1074) := by
  cases s <;> decide

theorem log2_mul_pow {v : Nat} (k : Nat) (h : v ≠ 0) : (v * 2 ^ k).log2 = v.log2 + k := by
  have hp := Nat.two_pow_pos k
  have h0 : v * 2 ^ k ≠ 0 := Nat.mul_ne_zero h (by omega)
  rw [Nat.log2_eq_iff h0]
  have h1 := Nat.log2_self_le h
  have h2 := @Nat.lt_log2_self v
  constructor
  · rw [Nat.pow_add]; exact Nat.mul_le_mul_right _ h1
  · rw [show v.log2 + k + 1 = (v.log2 + 1) + k by omega, Nat.pow_add]; exact Nat.mul_lt_mul_of_pos_right h2 hp
/-- cut of what is whole. -/
theorem cut_whole (s : Bool) (n drop q : Nat) (hn : n = q * 2 ^ drop) (hq : q ≠ 0) : Toward.even.cut s n drop = q := by
  unfold Toward.cut
  have hmin : min drop (n.log2 + 2) = drop := by
    rw [hn, log2_mul_pow _ hq]
    omega
  rw [hmin]
  simp only [Nat.shiftLeft_eq, Nat.one_mul]
  rw [hn, Nat.mul_div_cancel _ (Nat.two_pow_pos _), Nat.mul_mod_left]
  have hp := Nat.two_pow_pos drop
  have h1 : decide (2 ^ drop < 2 * 0) = false := decide_eq_false (by omega)
  have h2 : (2 ^ drop == 2 * 0) = false := beq_eq_false_iff_ne.2 (by omega)
  rw [h1, h2]
  rfl
theorem dbl_consts : double.leastPlace = -1074 ∧ (double.fractionBits : Int) = 52 ∧ double.binade = 2 ^ 52 ∧ double.infRung = 2047 * 2 ^ 52 := ⟨by decide, rfl, by decide, by decide⟩
theorem rung_gen (b e q : Nat) (he : e ≤ 52) (hk1 : b ≤ q) (hk2 : q < 2 * b) : b ≤ (1022 + e) * b + q ∧ (1022 + e) * b + q < 2047 * b := by
  have h := Nat.mul_le_mul_right b (show 1022 + e ≤ 1074 by omega)
  generalize (1022 + e) * b = x at h ⊢
  omega
theorem rung_in (e q : Nat) (he : e ≤ 52) (hk1 : 2 ^ 52 ≤ q) (hk2 : q < 2 ^ 53) : 2 ^ 52 ≤ (1022 + e) * 2 ^ 52 + q ∧ (1022 + e) * 2 ^ 52 + q < 2047 * 2 ^ 52 := rung_gen (2 ^ 52) e q he hk1 hk2
theorem near_word (s : Bool) (v k e : Nat) (h0 : v ≠ 0) (he : v.log2 = e) (he52 : e ≤ 52) (hk1 : 2 ^ 52 ≤ v * 2 ^ (52 - e)) (hk2 : v * 2 ^ (52 - e) < 2 ^ 53) : double.nearest s (v * 2 ^ k) (-(k : Int)) = double.word s ((1022 + e) * 2 ^ 52 + v * 2 ^ (52 - e)) := by
  have hlog : (v * 2 ^ k).log2 = e + k := by rw [log2_mul_pow k h0, he]
  have hpos : 0 < 2 ^ k := Nat.two_pow_pos k
  have hmag : v * 2 ^ k ≠ 0 := Nat.mul_ne_zero h0 (by omega)
  obtain ⟨e4, e5, e2, e3⟩ := dbl_consts
  unfold Format.nearest
  rw [if_neg hmag]
  simp only [hlog, e4, e5, e2, e3]
  have hlast : max (-(k : Int) + ((e + k : Nat) : Int) - 52) (-1074) = (e : Int) - 52 := by omega
  simp only [hlast]
  have hcut : Toward.even.cut s ((v * 2 ^ k) <<< (-(k : Int) - ((e : Int) - 52)).toNat) (((e : Int) - 52) - -(k : Int)).toNat = v * 2 ^ (52 - e) := by
    by_cases hk : k ≤ 52 - e
    · rw [show (((e : Int) - 52) - -(k : Int)).toNat = 0 by omega, show (-(k : Int) - ((e : Int) - 52)).toNat = 52 - e - k by omega, Nat.shiftLeft_eq, Nat.mul_assoc, ← Nat.pow_add, show k + (52 - e - k) = 52 - e by omega]
      exact cut_whole s _ 0 _ (by simp) (by omega)
    · rw [show (-(k : Int) - ((e : Int) - 52)).toNat = 0 by omega, Nat.shiftLeft_zero, show (((e : Int) - 52) - -(k : Int)).toNat = k - (52 - e) by omega]
      refine cut_whole s _ _ _ ?_ (by omega)
      rw [Nat.mul_assoc, ← Nat.pow_add]
      congr 2
      omega
  rw [hcut, show (((e : Int) - 52) - -1074).toNat = 1022 + e by omega]
  generalize v * 2 ^ (52 - e) = q at hk1 hk2 ⊢
  rw [Nat.min_eq_left (Nat.le_of_lt (rung_in e q he52 hk1 hk2).2)]
theorem mod_div_gen (b e r : Nat) (hr : r < b) : ((1022 + e) * b + (b + r)) % b = r ∧ ((1022 + e) * b + (b + r)) / b = 1023 + e := by
  have h : (1022 + e) * b + (b + r) = r + b * (1023 + e) := by
    rw [Nat.mul_comm (1022 + e) b, show 1023 + e = (1022 + e) + 1 by omega, Nat.mul_add b (1022 + e) 1]
    omega
  rw [h]
  exact ⟨by rw [Nat.add_mul_mod_self_left, Nat.mod_eq_of_lt hr], by rw [Nat.add_mul_div_left _ _ (by omega), Nat.div_eq_of_lt hr, Nat.zero_add]⟩
theorem mod_div (e q : Nat) (hk1 : 2 ^ 52 ≤ q) (hk2 : q < 2 ^ 53) : ((1022 + e) * 2 ^ 52 + q) % 2 ^ 52 = q - 2 ^ 52 ∧ ((1022 + e) * 2 ^ 52 + q) / 2 ^ 52 = 1023 + e := by
  obtain ⟨r, rfl⟩ : ∃ r, q = 2 ^ 52 + r := ⟨q - 2 ^ 52, by omega⟩
  have h := mod_div_gen (2 ^ 52) e r (by omega)
  rw [Nat.add_sub_cancel_left]
  exact h

theorem nearest_rep (s : Bool) (v k : Nat) (hv : v < 2 ^ 53) : ∃ m k' : Nat, double.read (double.nearest s (v * 2 ^ k) (-(k : Int))) = .number s m (-(k' : Int)) ∧ m = v * 2 ^ k' := by
  by_cases h0 : v = 0
  · subst h0
    obtain ⟨kk, hkk⟩ : ∃ kk : Nat, kk = 1074 := ⟨_, rfl⟩
    refine ⟨0, kk, ?_, (Nat.zero_mul _).symm⟩
    unfold Format.nearest
    rw [Nat.zero_mul, if_pos rfl, read_zero, hkk]
    rfl
  obtain ⟨e, he⟩ : ∃ e, e = v.log2 := ⟨_, rfl⟩
  have hlo : 2 ^ e ≤ v := by rw [he]; exact Nat.log2_self_le h0
  have hhi : v < 2 ^ (e + 1) := by rw [he]; exact Nat.lt_log2_self
  have he52 : e ≤ 52 := by
    have : e < 53 := by rw [he]; exact (Nat.log2_lt h0).2 hv
    omega
  have hkept : 2 ^ 52 ≤ v * 2 ^ (52 - e) ∧ v * 2 ^ (52 - e) < 2 ^ 53 := by
    constructor
    · calc 2 ^ 52 = 2 ^ e * 2 ^ (52 - e) := by rw [← Nat.pow_add]; congr 1; omega
        _ ≤ _ := Nat.mul_le_mul_right _ hlo
    · calc v * 2 ^ (52 - e) < 2 ^ (e + 1) * 2 ^ (52 - e) := Nat.mul_lt_mul_of_pos_right hhi (Nat.two_pow_pos _)
        _ = 2 ^ 53 := by rw [← Nat.pow_add]; congr 1; omega
  refine ⟨v * 2 ^ (52 - e), 52 - e, ?_, rfl⟩
  rw [near_word s v k e h0 he.symm he52 hkept.1 hkept.2]
  obtain ⟨hk1, hk2⟩ := hkept
  generalize v * 2 ^ (52 - e) = q at hk1 hk2 ⊢
  obtain ⟨hmod, hdiv⟩ := mod_div e q hk1 hk2
  rw [read_word s _ (rung_in e q he52 hk1 hk2).1 (rung_in e q he52 hk1 hk2).2, hmod, hdiv, show 2 ^ 52 + (q - 2 ^ 52) = q by omega]
  congr 1
  omega

/-- What is written of a whole number stands for it. -/
theorem rep_nearest (s : Bool) (n : Int) (k : Nat) (hn : n.natAbs < 2 ^ 53) (hs : n ≠ 0 → s = decide (n < 0)) : Rep (double.nearest s (n.natAbs * 2 ^ k) (-(k : Int))) n := by
  obtain ⟨m, k', h1, h2⟩ := nearest_rep s n.natAbs k hn
  refine ⟨s, m, k', h1, ?_⟩
  rw [signed0, h2]
  by_cases h0 : n = 0
  · subst h0; simp
  · rw [hs h0]
    by_cases h : n < 0
    · rw [decide_eq_true h, if_pos rfl]
      have : (n.natAbs : Int) = -n := by omega
      rw [Int.natCast_mul, this]
      rw [Int.neg_mul, Int.neg_neg]
    · rw [decide_eq_false h, if_neg (by decide)]
      have : (n.natAbs : Int) = n := by omega
      rw [Int.natCast_mul, this]

theorem rep_of_int (n : Int) (hn : n.natAbs < 2 ^ 53) : Rep (double.write (.number (n < 0) n.natAbs 0)) n := by
  have h := rep_nearest (decide (n < 0)) n 0 hn (fun _ => rfl)
  simpa [Format.write] using h

theorem pow_split (i j : Nat) (h : i ≤ j) : 2 ^ j = 2 ^ i * 2 ^ (j - i) := by rw [← Nat.pow_add]; congr 1; omega

theorem rep_add {x y : Nat} {a b : Int} (hx : Rep x a) (hy : Rep y b) (hn : (a + b).natAbs < 2 ^ 53) : ∃ r, double.add x y = some r ∧ Rep r (a + b) := by
  obtain ⟨s, m, i, h1, h2⟩ := hx
  obtain ⟨t, n, j, h3, h4⟩ := hy
  unfold Format.add
  rw [h1, h3]
  unfold Datum.sum
  refine ⟨_, rfl, ?_⟩
  have hb : min (-(i : Int)) (-(j : Int)) = -((max i j : Nat) : Int) := by omega
  simp only [hb]
  have htot : signed s m (-(i : Int) - -((max i j : Nat) : Int)).toNat + signed t n (-(j : Int) - -((max i j : Nat) : Int)).toNat = (a + b) * ((2 ^ max i j : Nat) : Int) := by
    rw [signed_sh s m, signed_sh t n, h2, h4, show (-(i : Int) - -((max i j : Nat) : Int)).toNat = max i j - i by omega, show (-(j : Int) - -((max i j : Nat) : Int)).toNat = max i j - j by omega,
      Int.mul_assoc, Int.mul_assoc, ← Int.natCast_mul, ← Int.natCast_mul, ← pow_split i (max i j) (by omega), ← pow_split j (max i j) (by omega), Int.add_mul]
  rw [htot]
  have hp : (0 : Int) < ((2 ^ max i j : Nat) : Int) := by have := Nat.two_pow_pos (max i j); omega
  unfold Format.write
  dsimp only
  have habs : ((a + b) * ((2 ^ max i j : Nat) : Int)).natAbs = (a + b).natAbs * 2 ^ max i j := by rw [Int.natAbs_mul]; rfl
  rw [habs]
  refine rep_nearest _ (a + b) (max i j) hn fun h0 => ?_
  have hne : (a + b) * ((2 ^ max i j : Nat) : Int) ≠ 0 := Int.mul_ne_zero h0 (by omega)
  rw [if_neg hne]
  by_cases h : a + b < 0
  · rw [decide_eq_true h, decide_eq_true (Int.mul_neg_of_neg_of_pos h hp)]
  · rw [decide_eq_false h, decide_eq_false (Int.not_lt.2 (Int.mul_nonneg (by omega) (by omega)))]

theorem rep_opp {x : Nat} {a : Int} (hx : Rep x a) : ∃ s m k, (double.read x).opposite = .number s m (-(k : Nat) : Int) ∧ signed s m 0 = -a * ((2 ^ k : Nat) : Int) := by
  obtain ⟨s, m, i, h1, h2⟩ := hx
  refine ⟨!s, m, i, by rw [h1]; rfl, ?_⟩
  rw [Int.neg_mul, ← h2, signed0, signed0]
  cases s <;> simp

theorem rep_sub {x y : Nat} {a b : Int} (hx : Rep x a) (hy : Rep y b) (hn : (a - b).natAbs < 2 ^ 53) : ∃ r, double.sub x y = some r ∧ Rep r (a - b) := by
  obtain ⟨s, m, i, h1, h2⟩ := hx
  obtain ⟨t, n, j, h3, h4⟩ := rep_opp hy
  have hd : a - b = a + -b := by omega
  rw [hd] at hn ⊢
  unfold Format.sub
  rw [h1, h3]
  unfold Datum.sum
  refine ⟨_, rfl, ?_⟩
  have hb : min (-(i : Int)) (-(j : Int)) = -((max i j : Nat) : Int) := by omega
  simp only [hb]
  have htot : signed s m (-(i : Int) - -((max i j : Nat) : Int)).toNat + signed t n (-(j : Int) - -((max i j : Nat) : Int)).toNat = (a + -b) * ((2 ^ max i j : Nat) : Int) := by
    rw [signed_sh s m, signed_sh t n, h2, h4, show (-(i : Int) - -((max i j : Nat) : Int)).toNat = max i j - i by omega, show (-(j : Int) - -((max i j : Nat) : Int)).toNat = max i j - j by omega,
      Int.mul_assoc, Int.mul_assoc, ← Int.natCast_mul, ← Int.natCast_mul, ← pow_split i (max i j) (by omega), ← pow_split j (max i j) (by omega), Int.add_mul]
  rw [htot]
  have hp : (0 : Int) < ((2 ^ max i j : Nat) : Int) := by have := Nat.two_pow_pos (max i j); omega
  unfold Format.write
  dsimp only
  have habs : ((a + -b) * ((2 ^ max i j : Nat) : Int)).natAbs = (a + -b).natAbs * 2 ^ max i j := by rw [Int.natAbs_mul]; rfl
  rw [habs]
  refine rep_nearest _ (a + -b) (max i j) hn fun h0 => ?_
  have hne : (a + -b) * ((2 ^ max i j : Nat) : Int) ≠ 0 := Int.mul_ne_zero h0 (by omega)
  rw [if_neg hne]
  by_cases h : a + -b < 0
  · rw [decide_eq_true h, decide_eq_true (Int.mul_neg_of_neg_of_pos h hp)]
  · rw [decide_eq_false h, decide_eq_false (Int.not_lt.2 (Int.mul_nonneg (by omega) (by omega)))]

theorem signed_abs (s : Bool) (m : Nat) : (signed s m 0).natAbs = m := by
  rw [signed0]
  cases s <;> simp
theorem rep_mul {x y : Nat} {a b : Int} (hx : Rep x a) (hy : Rep y b) (hn : (a * b).natAbs < 2 ^ 53) : ∃ r, double.mul x y = some r ∧ Rep r (a * b) := by
  obtain ⟨s, m, i, h1, h2⟩ := hx
  obtain ⟨t, n, j, h3, h4⟩ := hy
  unfold Format.mul
  rw [h1, h3]
  unfold Datum.product
  refine ⟨_, rfl, ?_⟩
  have hm : m = a.natAbs * 2 ^ i := by rw [← signed_abs s m, h2, Int.natAbs_mul]; rfl
  have hk : n = b.natAbs * 2 ^ j := by rw [← signed_abs t n, h4, Int.natAbs_mul]; rfl
  unfold Format.write
  dsimp only
  have e : m * n = (a * b).natAbs * 2 ^ (i + j) := by
    rw [hm, hk, Int.natAbs_mul, Nat.pow_add, Nat.mul_mul_mul_comm]
  rw [e, show -(i : Int) + -(j : Int) = -((i + j : Nat) : Int) by omega]
  refine rep_nearest _ (a * b) (i + j) hn fun h0 => ?_
  have ha : a ≠ 0 := fun h => h0 (by rw [h, Int.zero_mul])
  have hb : b ≠ 0 := fun h => h0 (by rw [h, Int.mul_zero])
  have hsg : ∀ (s : Bool) (m i : Nat) (a : Int), a ≠ 0 → signed s m 0 = a * ((2 ^ i : Nat) : Int) → s = decide (a < 0) := by
    intro s m i a ha h
    have hp : (0 : Int) < ((2 ^ i : Nat) : Int) := by have := Nat.two_pow_pos i; omega
    rw [signed0] at h
    by_cases hlt : a < 0
    · rw [decide_eq_true hlt]
      have := Int.mul_neg_of_neg_of_pos hlt hp
      cases s
      · rw [if_neg (by decide)] at h; omega
      · rfl
    · rw [decide_eq_false hlt]
      have := Int.mul_pos (show 0 < a by omega) hp
      cases s
      · rfl
      · rw [if_pos rfl] at h; omega
  rw [hsg s m i a ha h2, hsg t n j b hb h4]
  rcases Int.lt_or_gt_of_ne ha with h5 | h5 <;> rcases Int.lt_or_gt_of_ne hb with h6 | h6
  · have := Int.mul_pos_of_neg_of_neg h5 h6
    rw [decide_eq_true h5, decide_eq_true h6, decide_eq_false (by omega)]
    rfl
  · have := Int.mul_neg_of_neg_of_pos h5 h6
    rw [decide_eq_true h5, decide_eq_false (by omega), decide_eq_true this]
    rfl
  · have := Int.mul_neg_of_pos_of_neg h5 h6
    rw [decide_eq_false (by omega), decide_eq_true h6, decide_eq_true this]
    rfl
  · have := Int.mul_pos h5 h6
    rw [decide_eq_false (by omega), decide_eq_false (by omega), decide_eq_false (by omega)]
    rfl

theorem rep_order {x y : Nat} {a b : Int} (hx : Rep x a) (hy : Rep y b) : double.order x y = some (compare a b) := by
  obtain ⟨s, m, i, h1, h2⟩ := hx
  obtain ⟨t, n, j, h3, h4⟩ := hy
  unfold Format.order
  rw [h1, h3]
  unfold Datum.order
  have hb : min (-(i : Int)) (-(j : Int)) = -((max i j : Nat) : Int) := by omega
  simp only [hb]
  congr 1
  have e1 : signed s m (-(i : Int) - -((max i j : Nat) : Int)).toNat = a * ((2 ^ max i j : Nat) : Int) := by
    rw [signed_sh s m, h2, show (-(i : Int) - -((max i j : Nat) : Int)).toNat = max i j - i by omega, Int.mul_assoc, ← Int.natCast_mul, ← pow_split i (max i j) (by omega)]
  have e2 : signed t n (-(j : Int) - -((max i j : Nat) : Int)).toNat = b * ((2 ^ max i j : Nat) : Int) := by
    rw [signed_sh t n, h4, show (-(j : Int) - -((max i j : Nat) : Int)).toNat = max i j - j by omega, Int.mul_assoc, ← Int.natCast_mul, ← pow_split j (max i j) (by omega)]
  rw [e1, e2]
  have hp : (0 : Int) < ((2 ^ max i j : Nat) : Int) := by have := Nat.two_pow_pos (max i j); omega
  generalize ((2 ^ max i j : Nat) : Int) = q at hp
  show (if a * q < b * q then Ordering.lt else if a * q = b * q then Ordering.eq else Ordering.gt) = (if a < b then Ordering.lt else if a = b then Ordering.eq else Ordering.gt)
  by_cases h : a < b
  · rw [if_pos h, if_pos (Int.mul_lt_mul_of_pos_right h hp)]
  · rw [if_neg h, if_neg (by have := Int.mul_le_mul_of_nonneg_right (show b ≤ a by omega) (by omega : 0 ≤ q); omega)]
    by_cases e : a = b
    · subst e; rw [if_pos rfl, if_pos rfl]
    · rw [if_neg e, if_neg (fun h' => e (Int.eq_of_mul_eq_mul_right (by omega) h'))]
theorem rep_zero : Rep 0 0 := ⟨false, 0, 1074, by decide, by rw [signed0, Int.zero_mul]; rfl⟩
end Go.Proofs.MathFlt
