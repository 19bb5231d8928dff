import Derived.Test.YtclgeomjnpejmaaPSuffixFirstx3
import Derived.Test.YtclgeomjnpejmaaMathInv
namespace Go.Proofs.Ytclgeomjnpejmaa.PureFirst
open Go.RowKit Go.Proofs.Ytclgeomjnpejmaa.PSuffixFirst Go.Proofs.YtclgeomjnpejmaaW.PrintWords Go.Proofs.YtclgeomjnpejmaaW.PrintLast Go.Proofs.MathSuf Go.Proofs.MathInv Go.Proofs.Ytclgeomjnpejmaa.Suf
set_option linter.unusedVariables false
set_option linter.unusedSimpArgs false

theorem w64 (i : Nat) (h : i < 9000000000000000000) : wrap64 ((i : Int) + 1) = ((i + 1 : Nat) : Int) := by
  unfold wrap64
  omega
theorem rdn (l : List Int) (i : Nat) : rd l (i : Int) = l.getD i 0 := by simp [rd]

theorem num_l0 (x0 x1 : List Int) (hl : x0.length = x1.length) (hb : x0.length < 9000000000000000000) (c : Nat) : ∀ (m i : Nat), i + m = x0.length → haystackref07_Numbers.l0 (c + m + 1) x0 x1 (i : Int) = some (decide (x0.drop i = x1.drop i))
  | 0, i, h => by
    unfold haystackref07_Numbers.l0
    rw [if_neg (by omega), List.drop_of_length_le (by omega), List.drop_of_length_le (by omega)]
    rfl
  | m + 1, i, h => by
    unfold haystackref07_Numbers.l0
    rw [if_pos (by omega), if_pos (by omega), if_pos (by omega), rdn, rdn, w64 i (by omega)]
    have e0 : x0.drop i = x0.getD i 0 :: x0.drop (i + 1) := by
      rw [List.drop_eq_getElem_cons (by omega), List.getD_eq_getElem?_getD, List.getElem?_eq_getElem (by omega)]; rfl
    have e1 : x1.drop i = x1.getD i 0 :: x1.drop (i + 1) := by
      rw [List.drop_eq_getElem_cons (by omega), List.getD_eq_getElem?_getD, List.getElem?_eq_getElem (by omega)]; rfl
    rw [e0, e1]
    by_cases he : x0.getD i 0 = x1.getD i 0
    · rw [if_pos he]
      have ih := num_l0 x0 x1 hl hb c m (i + 1) (by omega)
      rw [show c + (m + 1) = c + m + 1 from rfl, ih, he]
      simp
    · rw [if_neg he]
      exact congrArg some (decide_eq_false fun e => he (List.cons.inj e).1).symm
theorem num_f (x0 x1 : List Int) (hb : x0.length < 9000000000000000000) (c : Nat) : haystackref07_Numbers.f (c + x0.length + 1) x0 x1 = some (decide (x0 = x1)) := by
  unfold haystackref07_Numbers.f
  by_cases h : x0.length = x1.length
  · rw [if_pos (by omega)]
    have := num_l0 x0 x1 h hb c x0.length 0 (by omega)
    simpa using this
  · rw [if_neg (by omega)]
    have : x0 ≠ x1 := fun e => h (by rw [e])
    simp [this]

theorem eq_l0 (x0 x1 : List Int) (hl : x0.length = x1.length) (hb : x0.length < 9000000000000000000) (c : Nat) : ∀ (m i : Nat), i + m = x0.length → slices_Equal_int_int.l0 (c + m + 1) x0 x1 (x0.length : Int) (i : Int) = some (decide (x0.drop i = x1.drop i))
  | 0, i, h => by
    unfold slices_Equal_int_int.l0
    rw [if_neg (by omega), List.drop_of_length_le (by omega), List.drop_of_length_le (by omega)]
    rfl
  | m + 1, i, h => by
    unfold slices_Equal_int_int.l0
    rw [if_pos (by omega), if_pos (by omega), if_pos (by omega), if_pos (by omega), rdn, rdn, w64 i (by omega)]
    have e0 : x0.drop i = x0.getD i 0 :: x0.drop (i + 1) := by
      rw [List.drop_eq_getElem_cons (by omega), List.getD_eq_getElem?_getD, List.getElem?_eq_getElem (by omega)]; rfl
    have e1 : x1.drop i = x1.getD i 0 :: x1.drop (i + 1) := by
      rw [List.drop_eq_getElem_cons (by omega), List.getD_eq_getElem?_getD, List.getElem?_eq_getElem (by omega)]; rfl
    rw [e0, e1]
    by_cases he : x0.getD i 0 = x1.getD i 0
    · rw [if_pos he]
      have ih := eq_l0 x0 x1 hl hb c m (i + 1) (by omega)
      rw [show c + (m + 1) = c + m + 1 from rfl, ih, he]
      simp
    · rw [if_neg he]
      exact congrArg some (decide_eq_false fun e => he (List.cons.inj e).1).symm
theorem eq_f (x0 x1 : List Int) (hb : x0.length < 9000000000000000000) (c : Nat) : slices_Equal_int_int.f (c + x0.length + 1) x0 x1 = some (decide (x0 = x1)) := by
  unfold slices_Equal_int_int.f
  by_cases h : x0.length = x1.length
  · rw [if_pos (by omega)]
    have := eq_l0 x0 x1 h hb c x0.length 0 (by omega)
    simpa using this
  · rw [if_neg (by omega)]
    have : x0 ≠ x1 := fun e => h (by rw [e])
    simp [this]

-- suffix.Inverse
theorem inv_l0 (l : List Int) (hb : l.length < 9000000000000000000) (c : Nat) : ∀ (m i : Nat) (x4 : List Int), x4.length = l.length → i + m = l.length → (∀ j, j < i → x4.getD j 0 = -1) →
    suffix_Inverse.l0 (c + m + 1) l x4 (l.length : Int) (i : Int) = suffix_Inverse.l1 c l (List.replicate l.length (-1)) l (l.length : Int) 0
  | 0, i, x4, h4, h, hm => by
    unfold suffix_Inverse.l0
    have e : x4 = List.replicate l.length (-1) := by
      apply List.ext_getElem (by simp [h4])
      intro j h1 h2
      have := hm j (by omega)
      rw [List.getD_eq_getElem?_getD, List.getElem?_eq_getElem h1] at this
      simpa using this
    rw [if_neg (by omega), e]
  | m + 1, i, x4, h4, h, hm => by
    unfold suffix_Inverse.l0
    rw [if_pos (by omega), if_pos (by omega), if_pos (by omega), w64 i (by omega), Int.toNat_natCast]
    refine inv_l0 l hb c m (i + 1) (x4.set i (-1)) (by simp [h4]) (by omega) fun j hj => ?_
    rw [List.getD_eq_getElem?_getD, List.getElem?_set]
    by_cases e : i = j
    · subst e; simp [h4, show i < l.length by omega]
    · rw [if_neg e, ← List.getD_eq_getElem?_getD]; exact hm j (by omega)

theorem inv_l1 (l : List Int) (hb : l.length < 9000000000000000000) (c : Nat) : ∀ (m i : Nat) (x4 : List Int), x4.length = l.length → i + m = l.length →
    (∀ p, p < i → 0 ≤ l.getD p 0 ∧ l.getD p 0 < l.length ∧ x4.getD (l.getD p 0).toNat 0 = (p : Int) ∧ ∀ q, q < p → l.getD q 0 ≠ l.getD p 0) → (∀ j, j < l.length → 0 ≤ x4.getD j 0 → ∃ p, p < i ∧ l.getD p 0 = (j : Int)) →
    ∃ r, suffix_Inverse.l1 (c + m + 1) l x4 l (l.length : Int) (i : Int) = some r ∧ InvSpec l r
  | 0, i, x4, h4, h, hp, hj => by
    refine ⟨(x4, 0), ?_, .inl ⟨fun p h1 => ?_, ⟨h4, fun p h1 => ?_⟩, rfl⟩⟩
    · unfold suffix_Inverse.l1
      rw [if_neg (by omega)]
    · have := hp p (by omega); exact ⟨this.1, this.2.1, this.2.2.2⟩
    · exact (hp p (by omega)).2.2.1
  | m + 1, i, x4, h4, h, hp, hj => by
    have hi : i < l.length := by omega
    unfold suffix_Inverse.l1
    rw [if_pos (by omega), if_pos (by omega), if_pos (by omega), rdn]
    obtain ⟨x, hx⟩ : ∃ x, l.getD i 0 = x := ⟨_, rfl⟩
    rw [hx]
    by_cases h0 : x < 0
    · rw [if_pos h0]
      exact ⟨_, rfl, .inr ⟨fun hg => by have := (hg i hi).1; omega, rfl⟩⟩
    rw [if_neg h0]
    by_cases h1 : x ≥ (l.length : Int)
    · rw [if_pos h1]
      exact ⟨_, rfl, .inr ⟨fun hg => by have := (hg i hi).2.1; omega, rfl⟩⟩
    rw [if_neg h1, if_pos (by omega), if_pos (by omega)]
    have er : rd x4 x = x4.getD x.toNat 0 := rfl
    rw [er]
    by_cases h2 : x4.getD x.toNat 0 ≥ 0
    · rw [if_pos h2]
      refine ⟨_, rfl, .inr ⟨fun hg => ?_, rfl⟩⟩
      obtain ⟨p, hpi, e⟩ := hj x.toNat (by omega) h2
      exact (hg i hi).2.2 p hpi (by omega)
    · rw [if_neg h2, w64 i (by omega)]
      refine inv_l1 l hb c m (i + 1) (x4.set x.toNat (i : Int)) (by simp [h4]) (by omega) (fun p hpi => ?_) fun j hjl hge => ?_
      · by_cases e : p = i
        · subst e
          rw [hx]
          refine ⟨by omega, by omega, ?_, fun q hq he => ?_⟩
          · rw [List.getD_eq_getElem?_getD, List.getElem?_set, if_pos rfl, if_pos (by omega)]; rfl
          · have h3 := (hp q hq).2.2.1
            rw [he] at h3
            omega
        · have h3 := hp p (by omega)
          refine ⟨h3.1, h3.2.1, ?_, h3.2.2.2⟩
          have hne : x.toNat ≠ (l.getD p 0).toNat := fun e2 => by
            have h4 := h3.2.2.1
            rw [← e2] at h4
            omega
          rw [List.getD_eq_getElem?_getD, List.getElem?_set, if_neg hne, ← List.getD_eq_getElem?_getD]
          exact h3.2.2.1
      · by_cases e : x.toNat = j
        · exact ⟨i, by omega, by omega⟩
        · rw [List.getD_eq_getElem?_getD, List.getElem?_set, if_neg e, ← List.getD_eq_getElem?_getD] at hge
          obtain ⟨p, hpi, e2⟩ := hj j hjl hge
          exact ⟨p, by omega, e2⟩

theorem inv_f (l : List Int) (hb : l.length ≤ 35184372088832) (c : Nat) : ∃ r, suffix_Inverse.f (c + (l.length + 1) + (l.length + 1)) l = some r ∧ InvSpec l r := by
  obtain ⟨r, hr, hs⟩ := inv_l1 l (by omega) c l.length 0 (List.replicate l.length (-1)) (by simp) (by omega) (fun p hp => by omega) (fun j hj hge => by
    rw [List.getD_eq_getElem?_getD, List.getElem?_eq_getElem (by simpa using hj)] at hge
    simp at hge)
  refine ⟨r, ?_, hs⟩
  unfold suffix_Inverse.f
  rw [if_pos (by omega), if_pos (by omega), Option.bind_some]
  have h0 := inv_l0 l (by omega) (c + (l.length + 1)) l.length 0 (List.replicate l.length 0) (by simp) (by omega) (fun j hj => by omega)
  rw [show c + (l.length + 1) + (l.length + 1) = c + (l.length + 1) + l.length + 1 by omega]
  simp only [Int.toNat_natCast, List.length_replicate]
  exact h0.trans hr

-- suffix.Array
theorem arr_f (l : List Int) (hb : ∀ x ∈ l, 0 ≤ x ∧ x < 256) (hl : l.length ≤ 8192) : suffix_Array.f l = some (sufs l, 0) := by
  unfold suffix_Array.f
  rw [if_pos (by simpa [List.all_eq_true] using hb), if_pos hl]
theorem arr_long (l : List Int) (hb : ∀ x ∈ l, 0 ≤ x ∧ x < 256) (hl : ¬ l.length ≤ 8192) : suffix_Array.f l = some ([], 4) := by
  unfold suffix_Array.f
  rw [if_pos (by simpa [List.all_eq_true] using hb), if_neg hl]
theorem sufs_empty : sufs [] = [0] := by
  have h : IsSuf [] [0] := ⟨by decide, by decide⟩
  exact sufs_of h
theorem sufs_banana : sufs [98, 97, 110, 97, 110, 97] = [6, 5, 3, 1, 0, 4, 2] := by
  have h : IsSuf [98, 97, 110, 97, 110, 97] [6, 5, 3, 1, 0, 4, 2] := ⟨by decide, by decide⟩
  exact sufs_of h

theorem up {α : Type} (f : Nat → Option α) (hm : ∀ k, LeO (f k) (f (k + 1))) {k : Nat} {r : α} (h : f k = some r) : ∀ c, f (c + k) = some r
  | 0 => by rw [Nat.zero_add]; exact h
  | c + 1 => by
    have := hm (c + k) r (up f hm h c)
    rwa [show c + 1 + k = c + k + 1 by omega]

theorem heads_f (c : Nat) : haystacklaw17_heads.f (c + 40) = some true := by
  refine up (fun k => haystacklaw17_heads.f k) haystacklaw17_heads.mono ?_ c
  unfold haystacklaw17_heads.f
  have hc1 : suffix_Check.f 40 [98, 97, 110, 97, 110, 97] [6, 5, 3, 1, 0, 4, 2] = some true := by
    unfold suffix_Check.f
    rw [arr_f _ (by decide) (by decide), Option.bind_some, if_pos rfl, sufs_banana]
    decide +kernel
  have hc2 : suffix_Check.f 40 [] [6, 5, 3, 1, 0, 4, 2] = some false := by
    unfold suffix_Check.f
    rw [arr_f _ (by decide) (by decide), Option.bind_some, if_pos rfl, sufs_empty]
    decide +kernel
  have hi : suffix_Inverse.f 40 [6, 5, 3, 1, 0, 4, 2] = some ([4, 3, 6, 2, 5, 1, 0], 0) := by decide +kernel
  have hi2 : suffix_Inverse.f 40 [0, 0] = some ([], 2) := by decide +kernel
  have hl : suffix_Array.f (List.replicate 8193 0) = some ([], 4) := arr_long _ (fun x hx => by rw [List.eq_of_mem_replicate hx]; omega) (by rw [List.length_replicate]; omega)
  have hn1 : haystackref07_Numbers.f 40 [6, 5, 3, 1, 0, 4, 2] [6, 5, 3, 1, 0, 4, 2] = some true := by decide +kernel
  have hn2 : haystackref07_Numbers.f 40 [4, 3, 6, 2, 5, 1, 0] [4, 3, 6, 2, 5, 1, 0] = some true := by decide +kernel
  have hs : suffix_Less.f [98, 97] 1 0 = some true := by decide +kernel
  rw [arr_f _ (by decide) (by decide), Option.bind_some, sufs_banana, hi, Option.bind_some, hi2, Option.bind_some, if_pos (by omega), hl, Option.bind_some, if_pos rfl, hn1, Option.bind_some, if_pos rfl, if_pos rfl, hn2, Option.bind_some, if_pos rfl, if_pos rfl, if_pos rfl, hc1, Option.bind_some, if_pos rfl, hc2, Option.bind_some, if_neg (by decide), hs]
  rfl

-- suffix.Less
theorem bcmp_lt : ∀ (a b : List Int), bcmp a b < 0 ↔ lexlt a b = true
  | [], [] => by decide
  | [], _ :: _ => by simp [bcmp, lexlt]
  | _ :: _, [] => by simp [bcmp, lexlt]
  | x :: a, y :: b => by
    have ih := bcmp_lt a b
    show (if x < y then (-1 : Int) else if y < x then 1 else bcmp a b) < 0 ↔ _
    rw [lexlt_cons]
    by_cases h1 : x < y
    · rw [if_pos h1]; simp [h1]
    · rw [if_neg h1]
      by_cases h2 : y < x
      · rw [if_pos h2]
        constructor
        · intro h; omega
        · rintro (h | ⟨h, _⟩) <;> omega
      · rw [if_neg h2, ih]
        constructor
        · intro h; exact .inr ⟨by omega, h⟩
        · rintro (h | ⟨_, h⟩)
          · omega
          · exact h

theorem less_f (l : List Int) (hb : ∀ x ∈ l, 0 ≤ x ∧ x < 256) (i j : Int) : suffix_Less.f l i j = some (decide (0 ≤ i ∧ 0 ≤ j ∧ i ≤ l.length ∧ j ≤ l.length) && lexlt (l.drop i.toNat) (l.drop j.toNat)) := by
  unfold suffix_Less.f mn mx
  by_cases h : 0 ≤ i ∧ 0 ≤ j ∧ i ≤ l.length ∧ j ≤ l.length
  · obtain ⟨h1, h2, h3, h4⟩ := h
    rw [if_neg (by split <;> omega), if_neg (by split <;> omega), if_pos h1, if_pos h3, if_pos h2, if_pos h4]
    have hc : bytes_Compare.f (l.drop i.toNat) (l.drop j.toNat) = some (bcmp (l.drop i.toNat) (l.drop j.toNat)) := by
      unfold bytes_Compare.f
      rw [if_pos]
      simp only [Bool.and_eq_true, List.all_eq_true, decide_eq_true_eq]
      exact ⟨fun x hx => hb x (List.mem_of_mem_drop hx), fun x hx => hb x (List.mem_of_mem_drop hx)⟩
    rw [hc, Option.bind_some, decide_eq_true (⟨h1, h2, h3, h4⟩ : 0 ≤ i ∧ 0 ≤ j ∧ i ≤ l.length ∧ j ≤ l.length), Bool.true_and]
    congr 1
    rw [Bool.eq_iff_iff, decide_eq_true_eq]
    exact bcmp_lt _ _
  · rw [decide_eq_false h, Bool.false_and]
    by_cases h1 : (if j < i then j else i) < 0
    · rw [if_pos h1]
    · rw [if_neg h1, if_pos]
      split <;> split at h1 <;> omega

theorem bytes_of_wf {l : List Int} (hw : ∀ x ∈ l, (Lit.int .u8 x).wf = true) : ∀ x ∈ l, 0 ≤ x ∧ x < 256 := by
  intro x hx
  have h := hw x hx
  simp [Lit.wf, IntKind.min, IntKind.max, IntKind.signed, IntKind.bits] at h
  omega

theorem sufs_at (l : List Int) (i : Nat) (hi : i < (sufN l).length) : rd (sufs l) (i : Int) = ((sufN l)[i] : Int) := by
  rw [rdn, List.getD_eq_getElem?_getD]
  unfold sufs
  rw [List.getElem?_map, List.getElem?_eq_getElem hi]
  rfl
theorem sufN_length (l : List Int) : (sufN l).length = l.length + 1 := by rw [(sufN_is l).perm.length_eq, List.length_range]
theorem sufN_le (l : List Int) (i : Nat) (hi : i < (sufN l).length) : (sufN l)[i] ≤ l.length := by
  have := ((sufN_is l).perm.mem_iff (a := (sufN l)[i])).1 (List.getElem_mem hi)
  have := List.mem_range.1 this
  omega
theorem sufN_ne (l : List Int) (q i : Nat) (h : q < i) (hi : i < (sufN l).length) : (sufN l)[q]'(by omega) ≠ (sufN l)[i] := by
  intro e
  have hs := List.pairwise_iff_getElem.1 (sufN_is l).sorted q i (by omega) hi h
  rw [e, lexlt_irrefl] at hs
  cases hs

theorem ofNat_inj {x y : Int} (hx : 0 ≤ x ∧ x < 256) (hy : 0 ≤ y ∧ y < 256) (h : UInt8.ofNat x.toNat = UInt8.ofNat y.toNat) : x = y := by
  have := congrArg UInt8.toNat h
  simp only [UInt8.toNat_ofNat'] at this
  omega
theorem bo_inj : ∀ (a b : List Int), (∀ x ∈ a, 0 ≤ x ∧ x < 256) → (∀ x ∈ b, 0 ≤ x ∧ x < 256) → Lib.bytesOf a = Lib.bytesOf b → a = b
  | [], [], _, _, _ => rfl
  | [], _ :: _, _, _, h => by cases h
  | _ :: _, [], _, _, h => by cases h
  | x :: a, y :: b, ha, hb, h => by
    have h' : UInt8.ofNat x.toNat :: Lib.bytesOf a = UInt8.ofNat y.toNat :: Lib.bytesOf b := h
    injection h' with h1 h2
    rw [ofNat_inj (ha x (List.mem_cons_self ..)) (hb y (List.mem_cons_self ..)) h1, bo_inj a b (fun z hz => ha z (List.mem_cons_of_mem _ hz)) (fun z hz => hb z (List.mem_cons_of_mem _ hz)) h2]
theorem str_iff (a b : List Int) (ha : ∀ x ∈ a, 0 ≤ x ∧ x < 256) (hb : ∀ x ∈ b, 0 ≤ x ∧ x < 256) : (strOfNums a).toList = (strOfNums b).toList ↔ a = b := by
  rw [Lib.strOfNums_toList, Lib.strOfNums_toList]
  exact ⟨bo_inj a b ha hb, fun h => by rw [h]⟩

def Pf (l p : List Int) (j : Nat) : Bool := decide ((l.drop j).take p.length = p)
theorem Pf_convex {l p : List Int} {a b c : Nat} (h1 : lexlt (l.drop a) (l.drop b) = true) (h2 : lexlt (l.drop b) (l.drop c) = true) (ha : Pf l p a = true) (hc : Pf l p c = true) : Pf l p b = true := by
  unfold Pf at *
  rw [decide_eq_true_eq] at *
  apply Classical.byContradiction
  intro h
  rcases lexlt_total h with h3 | h3
  · have h4 : lexlt ((l.drop b).take p.length) ((l.drop a).take p.length) = true := by rw [ha]; exact h3
    have := lexlt_asymm (lexlt_of_take h4)
    rw [h1] at this
    cases this
  · have h4 : lexlt ((l.drop c).take p.length) ((l.drop b).take p.length) = true := by rw [hc]; exact h3
    have := lexlt_asymm (lexlt_of_take h4)
    rw [h2] at this
    cases this
theorem count_stop (f : Nat → Bool) (i : Nat) : ∀ m, (∀ j, i ≤ j → j < i + m → f j = false) → (List.range (i + m)).countP f = (List.range i).countP f
  | 0, _ => rfl
  | m + 1, h => by
    rw [show i + (m + 1) = (i + m) + 1 by omega, List.range_succ, List.countP_append, count_stop f i m fun j h1 h2 => h j h1 (by omega)]
    simp [h (i + m) (by omega) (by omega)]
theorem count_succ (f : Nat → Bool) (i : Nat) : (List.range (i + 1)).countP f = (List.range i).countP f + (if f i = true then 1 else 0) := by
  rw [List.range_succ, List.countP_append]
  simp [List.countP_cons]

theorem fst_l1 (l p : List Int) (hb : ∀ x ∈ l, 0 ≤ x ∧ x < 256) (hp : ∀ x ∈ p, 0 ≤ x ∧ x < 256) (hl : l.length ≤ 600) (hpl : p.length ≤ 20) (x8 : Int) (h8 : x8 ≤ 1) (c : Nat) : ∀ (m i : Nat), i + m = l.length + 1 →
    haystacklaw17_SuffixFirst.l1 (c + 40 + m + 1) l p (((List.range (l.length + 1)).countP (Pf l p) : Nat) : Int) x8 (((List.range i).countP (Pf l p) : Nat) : Int) (i : Int) = some true := by
  intro m
  induction m with
  | zero =>
    intro i h
    unfold haystacklaw17_SuffixFirst.l1; try dsimp only
    have e1 : wrap64 ((i : Int) + (p.length : Int)) = ((i + p.length : Nat) : Int) := by unfold wrap64; omega
    rw [e1, if_neg (by omega), if_pos h8, show i = l.length + 1 by omega, if_pos rfl, show c + 40 + 0 = c + 40 from rfl, heads_f c]
    rfl
  | succ m ih =>
    intro i h
    unfold haystacklaw17_SuffixFirst.l1; try dsimp only
    have e1 : wrap64 ((i : Int) + (p.length : Int)) = ((i + p.length : Nat) : Int) := by unfold wrap64; omega
    rw [e1]
    by_cases hin : i + p.length ≤ l.length
    · have hc := List.countP_le_length (p := Pf l p) (l := List.range i)
      rw [List.length_range] at hc
      rw [if_pos (by omega), if_pos (by omega), if_pos (by omega), Int.toNat_natCast, Int.toNat_natCast, w64 i (by omega), w64 _ (by omega), List.drop_take, show i + p.length - i = p.length by omega]
      have hs := str_iff ((l.drop i).take p.length) p (fun x hx => hb x (List.mem_of_mem_drop (List.mem_of_mem_take hx))) hp
      have ih' := ih (i + 1) (by omega)
      rw [count_succ (Pf l p) i] at ih'
      by_cases he : (l.drop i).take p.length = p
      · rw [if_pos (hs.2 he)]
        rw [if_pos (show Pf l p i = true from decide_eq_true he)] at ih'
        rw [show c + 40 + (m + 1) = c + 40 + m + 1 by omega]
        exact ih'
      · rw [if_neg (fun h => he (hs.1 h))]
        rw [if_neg (show ¬ Pf l p i = true from fun h => he (of_decide_eq_true h))] at ih'
        rw [show c + 40 + (m + 1) = c + 40 + m + 1 by omega]
        exact ih'
    · have e2 : (List.range (l.length + 1)).countP (Pf l p) = (List.range i).countP (Pf l p) := by
        rw [← h]
        refine count_stop _ i (m + 1) fun j h1 h2 => ?_
        refine decide_eq_false fun e => ?_
        have := congrArg List.length e
        rw [List.length_take, List.length_drop] at this
        omega
      rw [if_neg (by omega), if_pos h8, e2, if_pos rfl, show c + 40 + (m + 1) = c + (m + 1) + 40 by omega, heads_f]
      rfl

/-- What is known of the count of stretches. -/
def Runs (l p : List Int) (i : Nat) (x8 : Int) (x9 : Bool) : Prop :=
  (x8 = 0 ∧ x9 = false ∧ ∀ q (hq : q < (sufN l).length), q < i → Pf l p (sufN l)[q] = false) ∨
  (x8 = 1 ∧ x9 = true ∧ ∃ q, ∃ hq : q < (sufN l).length, q + 1 = i ∧ Pf l p (sufN l)[q] = true) ∨
  (x8 = 1 ∧ x9 = false ∧ ∃ a b, ∃ ha : a < (sufN l).length, ∃ hb : b < (sufN l).length, a < b ∧ b < i ∧ Pf l p (sufN l)[a] = true ∧ Pf l p (sufN l)[b] = false)

theorem fst_l0 (l p : List Int) (hb : ∀ x ∈ l, 0 ≤ x ∧ x < 256) (hp : ∀ x ∈ p, 0 ≤ x ∧ x < 256) (hl : l.length ≤ 600) (hpl : p.length ≤ 20) (c : Nat) : ∀ (m i : Nat) (x8 : Int) (x9 : Bool), i + m = l.length + 1 → Runs l p i x8 x9 →
    haystacklaw17_SuffixFirst.l0 (c + 40 + (l.length + 1) + 1 + 3 * m + 1) l p (sufs l) (((sufN l).take i).countP (Pf l p) : Nat) x8 x9 (i : Int) = some true
  | 0, i, x8, x9, h, hr => by
    have hS := sufs_length l
    have hN := sufN_length l
    unfold haystacklaw17_SuffixFirst.l0; try dsimp only
    rw [if_neg (by omega), List.take_of_length_le (by omega), (sufN_is l).perm.countP_eq]
    have h8 : x8 ≤ 1 := by rcases hr with ⟨h, _⟩ | ⟨h, _⟩ | ⟨h, _⟩ <;> omega
    have := fst_l1 l p hb hp hl hpl x8 h8 c (l.length + 1) 0 (by omega)
    exact this
  | m + 1, i, x8, x9, h, hr => by
    have hS := sufs_length l
    have hN := sufN_length l
    have hi : i < (sufN l).length := by omega
    have hle := sufN_le l i hi
    obtain ⟨x, hx⟩ : ∃ x, (sufN l)[i] = x := ⟨_, rfl⟩
    have e1 : rd (sufs l) (i : Int) = (x : Int) := by rw [sufs_at l i hi, hx]
    rw [hx] at hle
    have h8 : 0 ≤ x8 ∧ x8 ≤ 1 := by rcases hr with ⟨h, _⟩ | ⟨h, _⟩ | ⟨h, _⟩ <;> omega
    have hcl : ((sufN l).take i).countP (Pf l p) ≤ 601 := by
      have := List.countP_le_length (p := Pf l p) (l := (sufN l).take i)
      rw [List.length_take] at this
      omega
    have hct : ((sufN l).take (i + 1)).countP (Pf l p) = ((sufN l).take i).countP (Pf l p) + (if Pf l p x = true then 1 else 0) := by
      rw [List.take_add_one, List.countP_append, List.getElem?_eq_getElem hi, hx]
      simp [List.countP_cons]
    have hj4 : haystacklaw17_SuffixFirst.j4 (c + 40 + (l.length + 1) + 1 + 3 * m + 1 + 1) l p (sufs l) (((sufN l).take i).countP (Pf l p) : Nat) x8 x9 (i : Int) (Pf l p x) = some true := by
      unfold haystacklaw17_SuffixFirst.j4; try dsimp only
      cases hP : Pf l p x with
      | true =>
        rw [if_pos hP] at hct
        rw [if_pos rfl, w64 i (by omega), w64 _ (by omega), ← hct]
        have hnew : Runs l p (i + 1) 1 true := .inr (.inl ⟨rfl, rfl, i, hi, rfl, by rw [hx]; exact hP⟩)
        rcases hr with ⟨ha, hb9, hno⟩ | ⟨ha, hb9, _⟩ | ⟨ha, hb9, a, b, hal, hbl, hab, hbi, hPa, hPb⟩
        · subst ha hb9
          rw [if_neg (by decide), show wrap64 ((0 : Int) + 1) = 1 by decide +kernel]
          exact fst_l0 l p hb hp hl hpl c m (i + 1) 1 true (by omega) hnew
        · subst ha hb9
          rw [if_pos rfl]
          exact fst_l0 l p hb hp hl hpl c m (i + 1) 1 true (by omega) hnew
        · exfalso
          have s1 := List.pairwise_iff_getElem.1 (sufN_is l).sorted a b hal hbl hab
          have s2 := List.pairwise_iff_getElem.1 (sufN_is l).sorted b i hbl hi hbi
          have := Pf_convex s1 s2 hPa (by rw [hx]; exact hP)
          rw [hPb] at this
          cases this
      | false =>
        rw [if_neg (by rw [hP]; decide), Nat.add_zero] at hct
        rw [if_neg (by decide), w64 i (by omega)]
        have hnew : Runs l p (i + 1) x8 false := by
          rcases hr with ⟨ha, hb9, hno⟩ | ⟨ha, hb9, q, hq, hqi, hPq⟩ | ⟨ha, hb9, a, b, hal, hbl, hab, hbi, hPa, hPb⟩
          · refine .inl ⟨ha, rfl, fun q hq hqi => ?_⟩
            by_cases e : q = i
            · subst e; rw [hx]; exact hP
            · exact hno q hq (by omega)
          · exact .inr (.inr ⟨ha, rfl, q, i, hq, hi, by omega, by omega, hPq, by rw [hx]; exact hP⟩)
          · exact .inr (.inr ⟨ha, rfl, a, b, hal, hbl, hab, by omega, hPa, hPb⟩)
        have hn := fst_l0 l p hb hp hl hpl c m (i + 1) x8 false (by omega) hnew
        rw [hct] at hn
        exact hn
    have hj3 : haystacklaw17_SuffixFirst.j3 (c + 40 + (l.length + 1) + 1 + 3 * m + 1 + 1 + 1) l p (sufs l) (((sufN l).take i).countP (Pf l p) : Nat) x8 x9 (i : Int) false = some true := by
      unfold haystacklaw17_SuffixFirst.j3; try dsimp only
      rw [if_neg (by decide), if_pos (by omega), if_pos (by omega), e1, if_pos (by omega), if_pos (by omega), Int.toNat_natCast, Int.toNat_natCast]
      by_cases hlen : p.length ≤ (l.drop x).length
      · rw [if_pos (by omega), if_pos (by omega), if_pos (by omega)]
        have hs := str_iff ((l.drop x).take p.length) p (fun x hx => hb x (List.mem_of_mem_drop (List.mem_of_mem_take hx))) hp
        have e2 : ((strOfNums ((l.drop x).take p.length)).toList == (strOfNums p).toList) = Pf l p x := by
          rw [Bool.eq_iff_iff, beq_iff_eq]
          unfold Pf
          rw [decide_eq_true_eq]
          exact hs
        rw [e2]
        exact hj4
      · rw [if_neg (by omega)]
        have e2 : Pf l p x = false := by
          refine decide_eq_false fun e => ?_
          have := congrArg List.length e
          rw [List.length_take] at this
          omega
        rw [e2] at hj4
        exact hj4
    rw [show c + 40 + (l.length + 1) + 1 + 3 * (m + 1) + 1 = (c + 40 + (l.length + 1) + 1 + 3 * m + 1 + 1 + 1) + 1 by omega]
    unfold haystacklaw17_SuffixFirst.l0; try dsimp only
    rw [if_pos (by omega), if_pos (by omega), e1, if_neg (by omega), decide_eq_false (by omega : ¬ (x : Int) > (l.length : Int))]
    exact hj3

end Go.Proofs.Ytclgeomjnpejmaa.PureFirst
namespace Go.Proofs.Ytclgeomjnpejmaa.Pure
open Go.RowKit Go.Proofs.Ytclgeomjnpejmaa.PureFirst Go.Proofs.Ytclgeomjnpejmaa.PSuffixFirst Go.Proofs.YtclgeomjnpejmaaW.PrintWords Go.Proofs.YtclgeomjnpejmaaW.PrintLast Go.Proofs.MathSuf Go.Proofs.MathInv Go.Proofs.Ytclgeomjnpejmaa.Suf

theorem SuffixFirst : haystacklaw17_SuffixFirst.Pure := by
  intro l p hm hB hw hm1 hB1 hw1
  have hb := bytes_of_wf hw
  have hp := bytes_of_wf hw1
  have hT : haystacklaw17_SuffixFirst.j0 (0 + 40 + 1) l p true = some true := by
    unfold haystacklaw17_SuffixFirst.j0; try dsimp only
    rw [if_pos rfl, heads_f]
    rfl
  by_cases c1 : (l.length : Int) > 600
  · refine ⟨0 + 40 + 1, ?_⟩
    unfold haystacklaw17_SuffixFirst.f
    rw [if_pos c1]
    exact hT
  by_cases c2 : (p.length : Int) > 20
  · refine ⟨0 + 40 + 1, ?_⟩
    unfold haystacklaw17_SuffixFirst.f
    rw [if_neg c1, decide_eq_true c2]
    exact hT
  have hS := sufs_length l
  have hN := sufN_length l
  have h0 : 0 < (sufN l).length := by omega
  have e0 : rd (sufs l) 0 = (l.length : Int) := by
    have e := sufs_at l 0 h0
    rw [show ((0 : Nat) : Int) = 0 from rfl] at e
    rw [e]
    have hmem := ((sufN_is l).perm.mem_iff (a := l.length)).2 (List.mem_range.2 (by omega))
    obtain ⟨q, hq, hqe⟩ := List.mem_iff_getElem.1 hmem
    by_cases hq0 : q = 0
    · subst hq0; rw [hqe]
    · have hs := List.pairwise_iff_getElem.1 (sufN_is l).sorted 0 q h0 hq (by omega)
      rw [hqe, List.drop_of_length_le (Nat.le_refl _)] at hs
      cases hd : l.drop (sufN l)[0] with
      | nil => rw [hd] at hs; cases hs
      | cons a t => rw [hd] at hs; cases hs
  refine ⟨0 + 40 + (l.length + 1) + 1 + 3 * (l.length + 1) + 1 + 1 + 1, ?_⟩
  unfold haystacklaw17_SuffixFirst.f
  rw [if_neg c1, decide_eq_false c2]
  unfold haystacklaw17_SuffixFirst.j0; try dsimp only
  rw [if_neg (by decide), arr_f l hb (by omega), Option.bind_some, if_pos rfl, w64 _ (by omega), if_pos (by simp [hS]), if_pos (by simp [hS])]
  show haystacklaw17_SuffixFirst.j1 _ l p (sufs l) (rd (sufs l) 0 != (l.length : Int)) = some true
  rw [e0, show ((l.length : Int) != (l.length : Int)) = false by simp]
  unfold haystacklaw17_SuffixFirst.j1; try dsimp only
  rw [if_neg (by decide)]
  have := fst_l0 l p hb hp (by omega) (by omega) 0 (l.length + 1) 0 0 false (by omega) (.inl ⟨rfl, rfl, fun q hq h => by omega⟩)
  exact this

end Go.Proofs.Ytclgeomjnpejmaa.Pure
