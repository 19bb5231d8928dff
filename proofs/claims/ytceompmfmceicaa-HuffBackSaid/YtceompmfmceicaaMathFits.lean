/- The lengths of few symbols may be: they are short, and fill Kraft's sum. Plain Lean; no program. -/
import Derived.Test.YtceompmfmceicaaMathTree
import Derived.Test.YtceompmfmceicaaMathCanon
namespace Go.Proofs.MathFits
open Go.Proofs.MathCodes (len part sumTo cntTo maxTo inB kraftB fitsB inB_iff)
open Go.Proofs.MathHuff (It lens cnt begin_ noughts)
open Go.Proofs.MathTree (L G wN pairs beginN begin_eq beginN_succ mem_beginN lens_fin lens_one lens_none lens_length lens_zero lens_pos lens_L noughts_get noughts_length kraft_append cost_append)
open Go.Proofs.MathOpt (kraft cost)
set_option linter.unusedVariables false

theorem G_big : ∀ k m u, m ≤ u → 2 ^ k * m ≤ G (2 * k) m u
  | 0, m, u, h => by show 1 * m ≤ u; omega
  | k + 1, m, u, h => by
    have ih := G_big k (u + m) (u + m + u) (by omega)
    show _ ≤ G (2 * k) (u + m) (u + m + u)
    rw [Nat.pow_succ, Nat.mul_assoc]
    exact Nat.le_trans (Nat.mul_le_mul_left _ (by omega)) ih
theorem G_depth {d T : Nat} (h : G d 1 1 ≤ T) (hT : T < 2 ^ 20) : d ≤ 40 := by
  rcases Nat.lt_or_ge 40 d with h1 | h1
  · exfalso
    have hp : 2 ^ 20 ≤ 2 ^ (d / 2) := Nat.pow_le_pow_right (by decide) (by omega)
    rcases Nat.mod_two_eq_zero_or_one d with e | e
    · have := G_big (d / 2) 1 1 (Nat.le_refl _)
      rw [show 2 * (d / 2) = d by omega] at this
      omega
    · have := G_big (d / 2) 1 2 (by decide)
      have e2 : G d 1 1 = G (2 * (d / 2)) 1 2 := by
        obtain ⟨q, hq⟩ : ∃ q, d = 2 * q + 1 := ⟨d / 2, by omega⟩
        rw [show d / 2 = q by omega, hq]
        rfl
      omega
  · exact h1
theorem L_small {counts : List Int} {T : Nat} (hT : ((begin_ counts).map wN).sum ≤ T) (hT2 : T < 2 ^ 20) {c : Nat} (hc : c < 256) : L counts c ≤ 40 := by
  by_cases hp : 0 < cnt counts c
  · have hm : (⟨c, cnt counts c, [c]⟩ : It) ∈ begin_ counts := mem_beginN.2 ⟨c, hc, hp, rfl⟩
    rcases Nat.lt_trichotomy (begin_ counts).length 1 with h | h | h
    · exact absurd hp ((lens_none (by omega)).2 c hc)
    · obtain ⟨d, _, _, e, hd⟩ := lens_one h
      have := hd c hc hp
      subst this
      unfold L
      rw [e, List.getD_eq_getElem?_getD, List.getElem?_set_self (by rw [noughts_length]; exact hc)]
      show (1 : Int).toNat ≤ 40
      decide
    · have hf := (lens_fin h).fib 1 1 _ hm (fun s hs => by
        obtain ⟨x, _, hx, rfl⟩ := mem_beginN.1 hs
        unfold wN
        show 1 ≤ (cnt counts x).toNat
        omega) (Nat.le_refl _) (by unfold wN; show 1 ≤ (cnt counts c).toNat; omega)
      exact G_depth (Nat.le_trans hf hT) hT2
  · have := lens_zero hc hp
    unfold L
    rw [this]
    decide
theorem len_L {counts : List Int} {c : Nat} (hc : c < 256) : len (lens counts) c = (L counts c : Int) := lens_L hc
theorem cnt_none {l : List Int} (h : ∀ c, c < 256 → len l c = 0) : ∀ n, n ≤ 256 → cntTo l n = 0
  | 0, _ => rfl
  | n + 1, hn => by
    unfold cntTo
    rw [cnt_none h n (by omega), h n (by omega)]
    rfl
theorem one_none {l : List Int} {c : Nat} (h : ∀ d, d < 256 → len l d = if d = c then 1 else 0) : ∀ n, n ≤ 256 → cntTo l n = (if c < n then 1 else 0) ∧ maxTo l n = (if c < n then 1 else 0)
  | 0, _ => ⟨rfl, rfl⟩
  | n + 1, hn => by
    obtain ⟨h1, h2⟩ := one_none h n (by omega)
    unfold cntTo maxTo
    rw [h1, h2, h n (by omega)]
    by_cases e : n = c
    · subst e
      simp
    · rw [if_neg e]
      by_cases e2 : c < n
      · rw [if_pos e2, if_pos (show c < n + 1 by omega)]; simp
      · rw [if_neg e2, if_neg (show ¬ c < n + 1 by omega)]; simp
theorem sum_kraft {counts : List Int} (hL : ∀ c, c < 256 → L counts c ≤ 40) : ∀ n, n ≤ 256 → sumTo (lens counts) n = (kraft 40 (pairs (beginN counts n) (L counts)) : Int)
  | 0, _ => rfl
  | n + 1, hn => by
    have ih := sum_kraft hL n (by omega)
    unfold sumTo
    rw [ih, beginN_succ]
    unfold pairs
    rw [List.map_append, kraft_append, Int.natCast_add]
    congr 1
    rw [len_L (show n < 256 by omega)]
    by_cases hp : 0 < cnt counts n
    · have h1 := (lens_pos (show n < 256 by omega) hp).1
      have h2 := hL n (by omega)
      rw [if_pos hp]
      simp only [List.map_cons, List.map_nil, kraft]
      unfold MathCodes.part
      rw [if_pos (by omega), show (40 - (L counts n : Int)).toNat = 40 - L counts n by omega, Int.natCast_add, Int.natCast_pow]
      simp
    · have h1 : L counts n = 0 := by
        unfold L
        rw [lens_zero (show n < 256 by omega) hp]
        rfl
      rw [if_neg hp, h1]
      rfl
/-- The lengths that few symbols get may be. -/
theorem fits_lens {counts : List Int} {T : Nat} (hT : ((begin_ counts).map wN).sum ≤ T) (hT2 : T < 2 ^ 20) : fitsB (lens counts) = true := by
  have hL := fun c hc => L_small hT hT2 (c := c) hc
  unfold fitsB
  have h1 : inB (lens counts) = true := inB_iff.2 fun c hc => by
    rw [len_L hc]
    have := hL c hc
    omega
  rw [h1, decide_eq_true (lens_length counts), Bool.true_and, Bool.true_and]
  unfold kraftB
  rcases Nat.lt_trichotomy (begin_ counts).length 1 with h | h | h
  · have h0 := (lens_none (show (begin_ counts).length = 0 by omega)).1
    rw [cnt_none (fun c hc => by rw [h0]; exact noughts_get c) 256 (Nat.le_refl _)]
    rfl
  · obtain ⟨c, hc, _, e, _⟩ := lens_one h
    obtain ⟨h2, h3⟩ := one_none (l := lens counts) (c := c) (fun d hd => by
      unfold len
      rw [e, List.getD_eq_getElem?_getD]
      by_cases x : d = c
      · subst x
        rw [List.getElem?_set_self (by rw [noughts_length]; exact hd), if_pos rfl]; rfl
      · rw [List.getElem?_set_ne (Ne.symm x), if_neg x, ← List.getD_eq_getElem?_getD]
        exact noughts_get d) 256 (Nat.le_refl _)
    rw [h2, h3, if_pos hc]
    rfl
  · have h2 := sum_kraft hL 256 (Nat.le_refl _)
    rw [← begin_eq, (lens_fin h).kra 40 (fun t ht => by
      obtain ⟨c, hc, _, rfl⟩ := mem_beginN.1 ht
      exact hL c hc)] at h2
    rw [h2]
    simp
/-! ### Counting a text -/
def sumC (x : List Int) (f : Nat → Nat) : Nat → Nat
  | 0 => 0
  | n + 1 => sumC x f n + x.count (n : Int) * f n
theorem sumC_nil (f : Nat → Nat) : ∀ n, sumC [] f n = 0
  | 0 => rfl
  | n + 1 => by unfold sumC; rw [sumC_nil f n]; simp
theorem sumC_cons (a : Nat) (x : List Int) (f : Nat → Nat) : ∀ n, sumC ((a : Int) :: x) f n = sumC x f n + if a < n then f a else 0
  | 0 => rfl
  | n + 1 => by
    have ih := sumC_cons a x f n
    show sumC ((a : Int) :: x) f n + ((a : Int) :: x).count (n : Int) * f n = (sumC x f n + x.count (n : Int) * f n) + if a < n + 1 then f a else 0
    rw [ih, List.count_cons, Nat.add_mul]
    by_cases e : a = n
    · subst e
      have h1 : (if a < a then f a else 0) = 0 := if_neg (by omega)
      have h2 : (if a < a + 1 then f a else 0) = f a := if_pos (by omega)
      rw [h1, h2]
      simp
      omega
    · have e2 : ((a : Int) == (n : Int)) = false := by
        rw [beq_eq_false_iff_ne]
        intro h
        exact e (Int.ofNat_inj.1 h)
      rw [e2]
      have h3 : (if a < n + 1 then f a else 0) = (if a < n then f a else 0) := by
        by_cases h : a < n
        · rw [if_pos h, if_pos (show a < n + 1 by omega)]
        · rw [if_neg h, if_neg (show ¬ a < n + 1 by omega)]
      rw [h3]
      simp
      omega
theorem sumC_all (f : Nat → Nat) : ∀ x : List Int, (∀ a ∈ x, 0 ≤ a ∧ a < 256) → sumC x f 256 = (x.map fun a => f a.toNat).sum
  | [], _ => sumC_nil f 256
  | a :: x, h => by
    have ha := h a (List.mem_cons_self ..)
    obtain ⟨n, rfl⟩ : ∃ n : Nat, a = (n : Int) := ⟨a.toNat, by omega⟩
    rw [sumC_cons, sumC_all f x (fun b hb => h b (List.mem_cons_of_mem _ hb)), if_pos (by omega), List.map_cons, List.sum_cons, Int.toNat_natCast]
    omega
theorem weights {counts x : List Int} (h : ∀ c, c < 256 → cnt counts c = (x.count (c : Int) : Int)) : ∀ n, n ≤ 256 → ((beginN counts n).map wN).sum = sumC x (fun _ => 1) n
  | 0, _ => rfl
  | n + 1, hn => by
    have ih := weights h n (by omega)
    rw [beginN_succ, List.map_append, List.sum_append, ih]
    show _ = sumC x (fun _ => 1) n + x.count (n : Int) * 1
    rw [Nat.mul_one]
    congr 1
    by_cases hp : 0 < cnt counts n
    · rw [if_pos hp]
      unfold wN
      simp only [List.map_cons, List.map_nil, List.sum_cons, List.sum_nil]
      rw [h n (by omega)]
      simp
    · rw [if_neg hp]
      have := h n (by omega)
      simp only [List.map_nil, List.sum_nil]
      omega
theorem total {counts x : List Int} (hx : ∀ a ∈ x, 0 ≤ a ∧ a < 256) (h : ∀ c, c < 256 → cnt counts c = (x.count (c : Int) : Int)) : ((begin_ counts).map wN).sum = x.length := by
  rw [begin_eq, weights h 256 (Nat.le_refl _), sumC_all _ x hx]
  clear h hx
  induction x with
  | nil => rfl
  | cons a x ih => rw [List.map_cons, List.sum_cons, ih, List.length_cons]; omega
theorem cost_text {counts x : List Int} (f : Nat → Nat) (h : ∀ c, c < 256 → cnt counts c = (x.count (c : Int) : Int)) : ∀ n, n ≤ 256 → MathTree.costTo counts f n = (sumC x f n : Int)
  | 0, _ => rfl
  | n + 1, hn => by
    unfold MathTree.costTo sumC
    rw [cost_text f h n (by omega), h n (by omega), Int.natCast_add, Int.natCast_mul]
end Go.Proofs.MathFits
