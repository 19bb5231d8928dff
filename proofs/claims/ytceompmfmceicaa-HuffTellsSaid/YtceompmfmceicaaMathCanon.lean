/- Codes by length, then number: each one is the place of its interval. Plain Lean; no program. -/
import Derived.Test.YtceompmfmceicaaMathAll
namespace Go.Proofs.MathCanon
open Go.Proofs.MathCodes (len order ahead part sumTo cntTo maxTo fitsB codes upto step shl64 kraftB mem_order order_pw order_nodup order_perm order_length cntTo_bd maxTo_bd fitsB_in upto_zero upto_succ upto_all upto_out upto_long)
open Go (IntKind)
set_option linter.unusedVariables false

/-- The length as a natural number; how much of 2 ^ 40 a symbol takes. -/
def nl (l : List Int) (c : Nat) : Nat := (len l c).toNat
def pt (l : List Int) (c : Nat) : Nat := if 0 < len l c then 2 ^ (40 - nl l c) else 0
def S (l : List Int) (k : Nat) : Nat := (((order l).take k).map (pt l)).sum
def st (l : List Int) (c : Nat) : Nat := S l ((order l).idxOf c)
theorem S_succ (l : List Int) (k : Nat) (h : k < (order l).length) : S l (k + 1) = S l k + pt l (order l)[k] := by
  unfold S
  rw [List.take_succ_eq_append_getElem h, List.map_append, List.sum_append]
  simp
theorem S_le (l : List Int) {i j : Nat} (h : i ≤ j) : S l i ≤ S l j := by
  unfold S
  have e : (order l).take j = (order l).take i ++ ((order l).take j).drop i := by
    have := List.take_append_drop i ((order l).take j)
    rw [List.take_take, Nat.min_eq_left h] at this
    exact this.symm
  rw [e, List.map_append, List.sum_append]
  omega
theorem pt_part (l : List Int) (c : Nat) (h : len l c ≤ 40) : (pt l c : Int) = MathCodes.part (len l c) := by
  unfold pt MathCodes.part
  split
  · rename_i hp
    unfold nl
    rw [show (40 - len l c).toNat = 40 - (len l c).toNat by omega, Int.natCast_pow]
    rfl
  · rfl
theorem sum_range (l : List Int) : ∀ n, (∀ c, c < n → len l c ≤ 40) → ((((List.range n).map (pt l)).sum : Nat) : Int) = sumTo l n
  | 0, _ => rfl
  | n + 1, h => by
    rw [List.range_succ, List.map_append, List.sum_append]
    have ih := sum_range l n fun c hc => h c (by omega)
    have := pt_part l n (h n (by omega))
    show ((_ + ([n].map (pt l)).sum : Nat) : Int) = sumTo l n + MathCodes.part (len l n)
    simp only [List.map_cons, List.map_nil, List.sum_cons, List.sum_nil]
    omega
theorem S_all (l : List Int) (h : ∀ c, c < 256 → 0 ≤ len l c ∧ len l c ≤ 40) : (S l 256 : Int) = sumTo l 256 := by
  unfold S
  rw [List.take_of_length_le (by rw [order_length l h]; exact Nat.le_refl _)]
  rw [((order_perm l h).map (pt l)).sum_nat]
  exact sum_range l 256 fun c hc => (h c hc).2
theorem one_of (l : List Int) : ∀ n, (∀ c, c < n → len l c ≤ 40) → cntTo l n = 0 → sumTo l n = 0 ∧ maxTo l n = 0
  | 0, _, _ => ⟨rfl, rfl⟩
  | n + 1, h, hc => by
    have hb := cntTo_bd l n
    unfold cntTo at hc
    by_cases hp : 0 < len l n
    · rw [if_pos hp] at hc; omega
    · rw [if_neg hp] at hc
      obtain ⟨h1, h2⟩ := one_of l n (fun c hc => h c (by omega)) (by omega)
      unfold sumTo maxTo MathCodes.part
      rw [if_neg hp, if_neg hp, h1, h2]
      exact ⟨rfl, rfl⟩
theorem one_max (l : List Int) : ∀ n, (∀ c, c < n → len l c ≤ 40) → cntTo l n = 1 → maxTo l n = 1 → sumTo l n = 549755813888
  | 0, _, hc, _ => by unfold cntTo at hc; omega
  | n + 1, h, hc, hm => by
    have hb := cntTo_bd l n
    have hx := maxTo_bd l n fun c hc => h c (by omega)
    unfold cntTo at hc
    unfold maxTo at hm
    unfold sumTo MathCodes.part
    by_cases hp : 0 < len l n
    · rw [if_pos hp] at hc hm
      obtain ⟨h1, h2⟩ := one_of l n (fun c hc => h c (by omega)) (by omega)
      rw [if_pos hp, h1]
      rw [h2, if_pos (by omega)] at hm
      rw [hm]
      decide
    · rw [if_neg hp] at hc hm
      rw [if_neg hp, one_max l n (fun c hc => h c (by omega)) (by omega) hm]
      rfl
theorem total_le {l : List Int} (h : fitsB l = true) : S l 256 ≤ 2 ^ 40 := by
  have hin := (fitsB_in h).2
  have hs := S_all l hin
  have h40 : ∀ c, c < 256 → len l c ≤ 40 := fun c hc => (hin c hc).2
  unfold fitsB kraftB at h
  simp only [Bool.and_eq_true, Bool.or_eq_true, beq_iff_eq] at h
  have e : (2 : Nat) ^ 40 = 1099511627776 := by decide
  rcases h.2 with (h0 | ⟨h1, h2⟩) | h3
  · have := (one_of l 256 h40 h0).1
    omega
  · have := one_max l 256 h40 h1 h2
    omega
  · omega
/-- What holds after k symbols. -/
structure Inv (l : List Int) (k : Nat) (s : MathCodes.St) : Prop where
  at_ : ∃ L x : Nat, s.long = (L : Int) ∧ s.next = (x : Int) ∧ L ≤ 40 ∧ x * 2 ^ (40 - L) = S l k
  sz : s.out.length = 256
  old : ∀ j (hj : j < (order l).length), j < k → 0 < len l (order l)[j] → ∃ b : Nat, s.out[(order l)[j]]? = some (MathCodes.len l (order l)[j], (b : Int)) ∧ b * 2 ^ (40 - nl l (order l)[j]) = S l j
  new : ∀ c, c < 256 → (∀ j (hj : j < (order l).length), j < k → (order l)[j] = c → ¬ 0 < MathCodes.len l c) → s.out[c]? = some (0, 0)
theorem u64_small (x : Nat) (h : x ≤ 2 ^ 41) : IntKind.u64.wrap (x : Int) = (x : Int) := by
  rw [IntKind.wrap_u64]
  have e : (2 : Nat) ^ 41 = 2199023255552 := by decide
  omega
theorem inv (l : List Int) (hf : fitsB l = true) : ∀ k, k ≤ 256 → Inv l k (upto l k)
  | 0, _ => by
    refine ⟨⟨0, 0, rfl, rfl, by omega, by simp [S]⟩, upto_out l 0, fun j hj h => absurd h (Nat.not_lt_zero _), fun c hc _ => ?_⟩
    rw [upto_zero]
    unfold MathCodes.start
    show (List.replicate 256 ((0 : Int), (0 : Int)))[c]? = _
    rw [List.getElem?_replicate, if_pos hc]
  | k + 1, hk => by
    have ih := inv l hf k (by omega)
    have hin := (fitsB_in hf).2
    have hol := order_length l hin
    have hkl : k < (order l).length := by omega
    have hmem := mem_order.1 (List.getElem_mem hkl)
    have hlo := (upto_long l k (by omega)).2 k hkl (Nat.le_refl _)
    have htot := total_le hf
    have hS1 := S_succ l k hkl
    have hSle := S_le l (show k + 1 ≤ 256 by omega)
    rw [upto_succ l k hkl]
    obtain ⟨⟨L, x, hL, hx, hL40, hxs⟩, hlen, hold, hnew⟩ := ih
    generalize upto l k = s at *
    have hnd := order_nodup l
    have hne : ∀ j (hj : j < (order l).length), j < k → (order l)[j] ≠ (order l)[k] := fun j hj hjk e => by
      have := (List.getElem_inj hnd).1 e
      omega
    generalize hc : (order l)[k] = c at *
    unfold MathCodes.step
    by_cases hp : 0 < len l c
    · rw [if_pos hp]
      obtain ⟨n, hn⟩ : ∃ n : Nat, len l c = (n : Int) := ⟨(len l c).toNat, by omega⟩
      have hnl : nl l c = n := by unfold nl; omega
      have hpt : pt l c = 2 ^ (40 - n) := by unfold pt; rw [if_pos hp, hnl]
      rw [hpt] at hS1
      have hLn : L ≤ n := by omega
      have hn40 : n ≤ 40 := by omega
      have hd : (len l c - s.long).toNat = n - L := by omega
      have hpow : 2 ^ (40 - L) = 2 ^ (n - L) * 2 ^ (40 - n) := by rw [← Nat.pow_add]; congr 1; omega
      have hb : (x * 2 ^ (n - L)) * 2 ^ (40 - n) = S l k := by rw [Nat.mul_assoc, ← hpow]; exact hxs
      have hb40 : x * 2 ^ (n - L) ≤ 2 ^ 40 := by
        have h1 : x * 2 ^ (n - L) ≤ (x * 2 ^ (n - L)) * 2 ^ (40 - n) := Nat.le_mul_of_pos_right _ (Nat.two_pow_pos _)
        omega
      have hsh : shl64 s.next (len l c - s.long) = ((x * 2 ^ (n - L) : Nat) : Int) := by
        unfold shl64
        rw [hd, hx]
        have e : (x : Int) * 2 ^ (n - L) = ((x * 2 ^ (n - L) : Nat) : Int) := by rw [Int.natCast_mul, Int.natCast_pow]; rfl
        rw [e]
        refine u64_small _ ?_
        have : (2 : Nat) ^ 40 ≤ 2 ^ 41 := by decide
        omega
      have hnx : IntKind.u64.wrap (((x * 2 ^ (n - L) : Nat) : Int) + 1) = ((x * 2 ^ (n - L) + 1 : Nat) : Int) := by
        rw [show ((x * 2 ^ (n - L) : Nat) : Int) + 1 = ((x * 2 ^ (n - L) + 1 : Nat) : Int) by omega]
        refine u64_small _ ?_
        have : (2 : Nat) ^ 40 + 1 ≤ 2 ^ 41 := by decide
        omega
      rw [hsh, hnx]
      refine ⟨⟨n, x * 2 ^ (n - L) + 1, hn, rfl, hn40, ?_⟩, by simp [hlen], fun j hj hjk hpj => ?_, fun d hd hno => ?_⟩
      · rw [Nat.add_mul, Nat.one_mul, hb, hS1]
      · by_cases e : j = k
        · subst e
          rw [hc]
          refine ⟨x * 2 ^ (n - L), ?_, by rw [hnl]; exact hb⟩
          rw [List.getElem?_set_self (by omega)]
        · obtain ⟨b, h1, h2⟩ := hold j hj (by omega) hpj
          refine ⟨b, ?_, h2⟩
          rw [List.getElem?_set_ne (Ne.symm (hne j hj (by omega)))]
          exact h1
      · have hdc : c ≠ d := fun e => hno k hkl (by omega) (hc.trans e) (by rw [← e]; exact hp)
        rw [List.getElem?_set_ne hdc]
        exact hnew d hd fun j hj hjk e => hno j hj (by omega) e
    · rw [if_neg hp]
      have hpt : pt l c = 0 := by unfold pt; rw [if_neg hp]
      rw [hpt] at hS1
      refine ⟨⟨L, x, hL, hx, hL40, by rw [hS1]; exact hxs⟩, hlen, fun j hj hjk hpj => ?_, fun d hd hno => ?_⟩
      · by_cases e : j = k
        · subst e
          rw [hc] at hpj
          exact absurd hpj hp
        · exact hold j hj (by omega) hpj
      · exact hnew d hd fun j hj hjk e => hno j hj (by omega) e
/-- What the codes are. -/
theorem code_is {l : List Int} (hf : fitsB l = true) {c : Nat} (hc : c < 256) (hp : 0 < len l c) :
    ∃ b : Nat, (codes l)[c]? = some (len l c, (b : Int)) ∧ b * 2 ^ (40 - nl l c) = st l c := by
  have hin := (fitsB_in hf).2
  have hol := order_length l hin
  have hi := inv l hf 256 (Nat.le_refl _)
  have hm : c ∈ order l := mem_order.2 ⟨hc, hin c hc⟩
  have hx := List.idxOf_lt_length_of_mem hm
  have he := List.getElem_idxOf hx
  obtain ⟨b, h1, h2⟩ := hi.old _ hx (by omega) (by rw [he]; exact hp)
  rw [he] at h1 h2
  refine ⟨b, ?_, h2⟩
  rw [← upto_all l 256 (by omega)]
  exact h1
theorem codes_length {l : List Int} (hf : fitsB l = true) : (codes l).length = 256 := by
  rw [← upto_all l 256 (by rw [order_length l (fitsB_in hf).2]; exact Nat.le_refl _)]
  exact upto_out l 256
theorem st_ahead {l : List Int} (hf : fitsB l = true) {c d : Nat} (hc : c < 256) (hd : d < 256) (hp : 0 < len l c) (ha : MathCodes.ahead l c d) : st l c + 2 ^ (40 - nl l c) ≤ st l d := by
  have hin := (fitsB_in hf).2
  have mc : c ∈ order l := mem_order.2 ⟨hc, hin c hc⟩
  have md : d ∈ order l := mem_order.2 ⟨hd, hin d hd⟩
  have xc := List.idxOf_lt_length_of_mem mc
  have xd := List.idxOf_lt_length_of_mem md
  have ec := List.getElem_idxOf xc
  have ed := List.getElem_idxOf xd
  have hlt : (order l).idxOf c < (order l).idxOf d := by
    rcases Nat.lt_trichotomy ((order l).idxOf c) ((order l).idxOf d) with h | h | h
    · exact h
    · have : c = d := by
        have h1 := ec
        have h2 := ed
        simp only [h] at h1
        rw [← h1, h2]
      subst this
      unfold MathCodes.ahead at ha
      omega
    · have := List.pairwise_iff_getElem.1 (order_pw l) _ _ xd xc h
      rw [ec, ed] at this
      unfold MathCodes.ahead at this ha
      omega
  have h1 := S_succ l _ xc
  rw [ec] at h1
  have h2 := S_le l (show (order l).idxOf c + 1 ≤ (order l).idxOf d from hlt)
  have h3 : pt l c = 2 ^ (40 - nl l c) := by unfold pt; rw [if_pos hp]
  unfold st
  omega
theorem st_top {l : List Int} (hf : fitsB l = true) {c : Nat} (hc : c < 256) (hp : 0 < len l c) : st l c + 2 ^ (40 - nl l c) ≤ 2 ^ 40 := by
  have hin := (fitsB_in hf).2
  have mc : c ∈ order l := mem_order.2 ⟨hc, hin c hc⟩
  have xc := List.idxOf_lt_length_of_mem mc
  have ec := List.getElem_idxOf xc
  have h1 := S_succ l _ xc
  rw [ec] at h1
  have h2 := S_le l (show (order l).idxOf c + 1 ≤ 256 by have := order_length l hin; omega)
  have h3 : pt l c = 2 ^ (40 - nl l c) := by unfold pt; rw [if_pos hp]
  have h4 := total_le hf
  unfold st
  omega
theorem ahead_or {l : List Int} {c d : Nat} (h : c ≠ d) : MathCodes.ahead l c d ∨ MathCodes.ahead l d c := by
  unfold MathCodes.ahead
  omega
/-- The law of two codes: the first is no beginning of the second. -/
theorem apart {l : List Int} (hf : fitsB l = true) {c d : Nat} (hc : c < 256) (hd : d < 256) (hcd : c ≠ d) (hpc : 0 < len l c) (hpd : 0 < len l d) (hle : len l c ≤ len l d) {x y : Nat}
    (hx : (codes l)[c]? = some (len l c, (x : Int))) (hy : (codes l)[d]? = some (len l d, (y : Int))) :
    let first := y / 2 ^ (nl l d - nl l c)
    first ≠ x ∧ ((len l c < len l d ∨ c < d) ↔ x < first) ∧ x < 2 ^ nl l c := by
  intro first
  obtain ⟨x', hx', sx⟩ := code_is hf hc hpc
  obtain ⟨y', hy', sy⟩ := code_is hf hd hpd
  rw [hx] at hx'
  rw [hy] at hy'
  have ex : x = x' := by injection hx' with h; injection h with _ h; omega
  have ey : y = y' := by injection hy' with h; injection h with _ h; omega
  subst ex
  subst ey
  have h40c := (fitsB_in hf).2 c hc
  have h40d := (fitsB_in hf).2 d hd
  have hnn : nl l c ≤ nl l d := by unfold nl; omega
  have hn40 : nl l d ≤ 40 := by unfold nl; omega
  have hpow : 2 ^ (40 - nl l c) = 2 ^ (nl l d - nl l c) * 2 ^ (40 - nl l d) := by rw [← Nat.pow_add]; congr 1; omega
  have hpos := Nat.two_pow_pos (nl l d - nl l c)
  have hpos2 := Nat.two_pow_pos (40 - nl l d)
  have hpos3 := Nat.two_pow_pos (40 - nl l c)
  have htop := st_top hf hc hpc
  have hxtop : x < 2 ^ nl l c := by
    have e : 2 ^ 40 = 2 ^ nl l c * 2 ^ (40 - nl l c) := by rw [← Nat.pow_add]; congr 1; omega
    rw [e, ← sx] at htop
    have h : (x + 1) * 2 ^ (40 - nl l c) ≤ 2 ^ nl l c * 2 ^ (40 - nl l c) := by rw [Nat.add_mul, Nat.one_mul]; exact htop
    exact Nat.le_of_mul_le_mul_right h hpos3
  have key : ∀ q : Nat, q * 2 ^ (40 - nl l c) ≤ y * 2 ^ (40 - nl l d) ↔ q ≤ first := by
    intro q
    rw [hpow, ← Nat.mul_assoc]
    show _ ↔ q ≤ y / 2 ^ (nl l d - nl l c)
    rw [Nat.le_div_iff_mul_le hpos]
    constructor
    · intro h; exact Nat.le_of_mul_le_mul_right h hpos2
    · intro h; exact Nat.mul_le_mul_right _ h
  rcases ahead_or (l := l) hcd with ha | ha
  · have h1 := st_ahead hf hc hd hpc ha
    rw [← sx, ← sy] at h1
    have h2 : x + 1 ≤ first := (key (x + 1)).1 (by rw [Nat.add_mul, Nat.one_mul]; exact h1)
    refine ⟨by omega, ⟨fun _ => h2, fun _ => ?_⟩, hxtop⟩
    unfold MathCodes.ahead at ha
    omega
  · have heq : len l c = len l d ∧ d < c := by unfold MathCodes.ahead at ha; omega
    have h1 := st_ahead hf hd hc hpd ha
    rw [← sx, ← sy] at h1
    have e : nl l d = nl l c := by unfold nl; omega
    have h2 : ¬ x ≤ first := by
      intro h
      have := (key x).2 h
      omega
    refine ⟨by omega, ⟨fun h => by omega, fun h => by omega⟩, hxtop⟩
end Go.Proofs.MathCanon
