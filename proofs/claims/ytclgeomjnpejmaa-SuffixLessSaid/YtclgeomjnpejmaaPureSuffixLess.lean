import Derived.Test.YtclgeomjnpejmaaPSuffixLessx3
import Derived.Test.YtclgeomjnpejmaaMathInv
namespace Go.Proofs.Ytclgeomjnpejmaa.PureLess
open Go.RowKit Go.Proofs.Ytclgeomjnpejmaa.PSuffixLess Go.Proofs.YtclgeomjnpejmaaW.PrintWords Go.Proofs.YtclgeomjnpejmaaW.PrintLast Go.Proofs.MathSuf Go.Proofs.MathInv Go.Proofs.Ytclgeomjnpejmaa.Suf
set_option linter.unusedVariables false
set_option linter.unusedSimpArgs false

theorem w64 (i : Nat) (h : i < 9000000000000000000) : wrap64 ((i : Int) + 1) = ((i + 1 : Nat) : Int) := by
  unfold wrap64
  omega
theorem rdn (l : List Int) (i : Nat) : rd l (i : Int) = l.getD i 0 := by simp [rd]

theorem num_l0 (x0 x1 : List Int) (hl : x0.length = x1.length) (hb : x0.length < 9000000000000000000) (c : Nat) : ∀ (m i : Nat), i + m = x0.length → haystackref07_Numbers.l0 (c + m + 1) x0 x1 (i : Int) = some (decide (x0.drop i = x1.drop i))
  | 0, i, h => by
    unfold haystackref07_Numbers.l0
    rw [if_neg (by omega), List.drop_of_length_le (by omega), List.drop_of_length_le (by omega)]
    rfl
  | m + 1, i, h => by
    unfold haystackref07_Numbers.l0
    rw [if_pos (by omega), if_pos (by omega), if_pos (by omega), rdn, rdn, w64 i (by omega)]
    have e0 : x0.drop i = x0.getD i 0 :: x0.drop (i + 1) := by
      rw [List.drop_eq_getElem_cons (by omega), List.getD_eq_getElem?_getD, List.getElem?_eq_getElem (by omega)]; rfl
    have e1 : x1.drop i = x1.getD i 0 :: x1.drop (i + 1) := by
      rw [List.drop_eq_getElem_cons (by omega), List.getD_eq_getElem?_getD, List.getElem?_eq_getElem (by omega)]; rfl
    rw [e0, e1]
    by_cases he : x0.getD i 0 = x1.getD i 0
    · rw [if_pos he]
      have ih := num_l0 x0 x1 hl hb c m (i + 1) (by omega)
      rw [show c + (m + 1) = c + m + 1 from rfl, ih, he]
      simp
    · rw [if_neg he]
      exact congrArg some (decide_eq_false fun e => he (List.cons.inj e).1).symm
theorem num_f (x0 x1 : List Int) (hb : x0.length < 9000000000000000000) (c : Nat) : haystackref07_Numbers.f (c + x0.length + 1) x0 x1 = some (decide (x0 = x1)) := by
  unfold haystackref07_Numbers.f
  by_cases h : x0.length = x1.length
  · rw [if_pos (by omega)]
    have := num_l0 x0 x1 h hb c x0.length 0 (by omega)
    simpa using this
  · rw [if_neg (by omega)]
    have : x0 ≠ x1 := fun e => h (by rw [e])
    simp [this]

theorem eq_l0 (x0 x1 : List Int) (hl : x0.length = x1.length) (hb : x0.length < 9000000000000000000) (c : Nat) : ∀ (m i : Nat), i + m = x0.length → slices_Equal_int_int.l0 (c + m + 1) x0 x1 (x0.length : Int) (i : Int) = some (decide (x0.drop i = x1.drop i))
  | 0, i, h => by
    unfold slices_Equal_int_int.l0
    rw [if_neg (by omega), List.drop_of_length_le (by omega), List.drop_of_length_le (by omega)]
    rfl
  | m + 1, i, h => by
    unfold slices_Equal_int_int.l0
    rw [if_pos (by omega), if_pos (by omega), if_pos (by omega), if_pos (by omega), rdn, rdn, w64 i (by omega)]
    have e0 : x0.drop i = x0.getD i 0 :: x0.drop (i + 1) := by
      rw [List.drop_eq_getElem_cons (by omega), List.getD_eq_getElem?_getD, List.getElem?_eq_getElem (by omega)]; rfl
    have e1 : x1.drop i = x1.getD i 0 :: x1.drop (i + 1) := by
      rw [List.drop_eq_getElem_cons (by omega), List.getD_eq_getElem?_getD, List.getElem?_eq_getElem (by omega)]; rfl
    rw [e0, e1]
    by_cases he : x0.getD i 0 = x1.getD i 0
    · rw [if_pos he]
      have ih := eq_l0 x0 x1 hl hb c m (i + 1) (by omega)
      rw [show c + (m + 1) = c + m + 1 from rfl, ih, he]
      simp
    · rw [if_neg he]
      exact congrArg some (decide_eq_false fun e => he (List.cons.inj e).1).symm
theorem eq_f (x0 x1 : List Int) (hb : x0.length < 9000000000000000000) (c : Nat) : slices_Equal_int_int.f (c + x0.length + 1) x0 x1 = some (decide (x0 = x1)) := by
  unfold slices_Equal_int_int.f
  by_cases h : x0.length = x1.length
  · rw [if_pos (by omega)]
    have := eq_l0 x0 x1 h hb c x0.length 0 (by omega)
    simpa using this
  · rw [if_neg (by omega)]
    have : x0 ≠ x1 := fun e => h (by rw [e])
    simp [this]

-- suffix.Inverse
theorem inv_l0 (l : List Int) (hb : l.length < 9000000000000000000) (c : Nat) : ∀ (m i : Nat) (x4 : List Int), x4.length = l.length → i + m = l.length → (∀ j, j < i → x4.getD j 0 = -1) →
    suffix_Inverse.l0 (c + m + 1) l x4 (l.length : Int) (i : Int) = suffix_Inverse.l1 c l (List.replicate l.length (-1)) l (l.length : Int) 0
  | 0, i, x4, h4, h, hm => by
    unfold suffix_Inverse.l0
    have e : x4 = List.replicate l.length (-1) := by
      apply List.ext_getElem (by simp [h4])
      intro j h1 h2
      have := hm j (by omega)
      rw [List.getD_eq_getElem?_getD, List.getElem?_eq_getElem h1] at this
      simpa using this
    rw [if_neg (by omega), e]
  | m + 1, i, x4, h4, h, hm => by
    unfold suffix_Inverse.l0
    rw [if_pos (by omega), if_pos (by omega), if_pos (by omega), w64 i (by omega), Int.toNat_natCast]
    refine inv_l0 l hb c m (i + 1) (x4.set i (-1)) (by simp [h4]) (by omega) fun j hj => ?_
    rw [List.getD_eq_getElem?_getD, List.getElem?_set]
    by_cases e : i = j
    · subst e; simp [h4, show i < l.length by omega]
    · rw [if_neg e, ← List.getD_eq_getElem?_getD]; exact hm j (by omega)

theorem inv_l1 (l : List Int) (hb : l.length < 9000000000000000000) (c : Nat) : ∀ (m i : Nat) (x4 : List Int), x4.length = l.length → i + m = l.length →
    (∀ p, p < i → 0 ≤ l.getD p 0 ∧ l.getD p 0 < l.length ∧ x4.getD (l.getD p 0).toNat 0 = (p : Int) ∧ ∀ q, q < p → l.getD q 0 ≠ l.getD p 0) → (∀ j, j < l.length → 0 ≤ x4.getD j 0 → ∃ p, p < i ∧ l.getD p 0 = (j : Int)) →
    ∃ r, suffix_Inverse.l1 (c + m + 1) l x4 l (l.length : Int) (i : Int) = some r ∧ InvSpec l r
  | 0, i, x4, h4, h, hp, hj => by
    refine ⟨(x4, 0), ?_, .inl ⟨fun p h1 => ?_, ⟨h4, fun p h1 => ?_⟩, rfl⟩⟩
    · unfold suffix_Inverse.l1
      rw [if_neg (by omega)]
    · have := hp p (by omega); exact ⟨this.1, this.2.1, this.2.2.2⟩
    · exact (hp p (by omega)).2.2.1
  | m + 1, i, x4, h4, h, hp, hj => by
    have hi : i < l.length := by omega
    unfold suffix_Inverse.l1
    rw [if_pos (by omega), if_pos (by omega), if_pos (by omega), rdn]
    obtain ⟨x, hx⟩ : ∃ x, l.getD i 0 = x := ⟨_, rfl⟩
    rw [hx]
    by_cases h0 : x < 0
    · rw [if_pos h0]
      exact ⟨_, rfl, .inr ⟨fun hg => by have := (hg i hi).1; omega, rfl⟩⟩
    rw [if_neg h0]
    by_cases h1 : x ≥ (l.length : Int)
    · rw [if_pos h1]
      exact ⟨_, rfl, .inr ⟨fun hg => by have := (hg i hi).2.1; omega, rfl⟩⟩
    rw [if_neg h1, if_pos (by omega), if_pos (by omega)]
    have er : rd x4 x = x4.getD x.toNat 0 := rfl
    rw [er]
    by_cases h2 : x4.getD x.toNat 0 ≥ 0
    · rw [if_pos h2]
      refine ⟨_, rfl, .inr ⟨fun hg => ?_, rfl⟩⟩
      obtain ⟨p, hpi, e⟩ := hj x.toNat (by omega) h2
      exact (hg i hi).2.2 p hpi (by omega)
    · rw [if_neg h2, w64 i (by omega)]
      refine inv_l1 l hb c m (i + 1) (x4.set x.toNat (i : Int)) (by simp [h4]) (by omega) (fun p hpi => ?_) fun j hjl hge => ?_
      · by_cases e : p = i
        · subst e
          rw [hx]
          refine ⟨by omega, by omega, ?_, fun q hq he => ?_⟩
          · rw [List.getD_eq_getElem?_getD, List.getElem?_set, if_pos rfl, if_pos (by omega)]; rfl
          · have h3 := (hp q hq).2.2.1
            rw [he] at h3
            omega
        · have h3 := hp p (by omega)
          refine ⟨h3.1, h3.2.1, ?_, h3.2.2.2⟩
          have hne : x.toNat ≠ (l.getD p 0).toNat := fun e2 => by
            have h4 := h3.2.2.1
            rw [← e2] at h4
            omega
          rw [List.getD_eq_getElem?_getD, List.getElem?_set, if_neg hne, ← List.getD_eq_getElem?_getD]
          exact h3.2.2.1
      · by_cases e : x.toNat = j
        · exact ⟨i, by omega, by omega⟩
        · rw [List.getD_eq_getElem?_getD, List.getElem?_set, if_neg e, ← List.getD_eq_getElem?_getD] at hge
          obtain ⟨p, hpi, e2⟩ := hj j hjl hge
          exact ⟨p, by omega, e2⟩

theorem inv_f (l : List Int) (hb : l.length ≤ 35184372088832) (c : Nat) : ∃ r, suffix_Inverse.f (c + (l.length + 1) + (l.length + 1)) l = some r ∧ InvSpec l r := by
  obtain ⟨r, hr, hs⟩ := inv_l1 l (by omega) c l.length 0 (List.replicate l.length (-1)) (by simp) (by omega) (fun p hp => by omega) (fun j hj hge => by
    rw [List.getD_eq_getElem?_getD, List.getElem?_eq_getElem (by simpa using hj)] at hge
    simp at hge)
  refine ⟨r, ?_, hs⟩
  unfold suffix_Inverse.f
  rw [if_pos (by omega), if_pos (by omega), Option.bind_some]
  have h0 := inv_l0 l (by omega) (c + (l.length + 1)) l.length 0 (List.replicate l.length 0) (by simp) (by omega) (fun j hj => by omega)
  rw [show c + (l.length + 1) + (l.length + 1) = c + (l.length + 1) + l.length + 1 by omega]
  simp only [Int.toNat_natCast, List.length_replicate]
  exact h0.trans hr

-- suffix.Array
theorem arr_f (l : List Int) (hb : ∀ x ∈ l, 0 ≤ x ∧ x < 256) (hl : l.length ≤ 8192) : suffix_Array.f l = some (sufs l, 0) := by
  unfold suffix_Array.f
  rw [if_pos (by simpa [List.all_eq_true] using hb), if_pos hl]
theorem arr_long (l : List Int) (hb : ∀ x ∈ l, 0 ≤ x ∧ x < 256) (hl : ¬ l.length ≤ 8192) : suffix_Array.f l = some ([], 4) := by
  unfold suffix_Array.f
  rw [if_pos (by simpa [List.all_eq_true] using hb), if_neg hl]
theorem sufs_empty : sufs [] = [0] := by
  have h : IsSuf [] [0] := ⟨by decide, by decide⟩
  exact sufs_of h
theorem sufs_banana : sufs [98, 97, 110, 97, 110, 97] = [6, 5, 3, 1, 0, 4, 2] := by
  have h : IsSuf [98, 97, 110, 97, 110, 97] [6, 5, 3, 1, 0, 4, 2] := ⟨by decide, by decide⟩
  exact sufs_of h

theorem up {α : Type} (f : Nat → Option α) (hm : ∀ k, LeO (f k) (f (k + 1))) {k : Nat} {r : α} (h : f k = some r) : ∀ c, f (c + k) = some r
  | 0 => by rw [Nat.zero_add]; exact h
  | c + 1 => by
    have := hm (c + k) r (up f hm h c)
    rwa [show c + 1 + k = c + k + 1 by omega]

theorem heads_f (c : Nat) : haystacklaw17_heads.f (c + 40) = some true := by
  refine up (fun k => haystacklaw17_heads.f k) haystacklaw17_heads.mono ?_ c
  unfold haystacklaw17_heads.f
  have hc1 : suffix_Check.f 40 [98, 97, 110, 97, 110, 97] [6, 5, 3, 1, 0, 4, 2] = some true := by
    unfold suffix_Check.f
    rw [arr_f _ (by decide) (by decide), Option.bind_some, if_pos rfl, sufs_banana]
    decide +kernel
  have hc2 : suffix_Check.f 40 [] [6, 5, 3, 1, 0, 4, 2] = some false := by
    unfold suffix_Check.f
    rw [arr_f _ (by decide) (by decide), Option.bind_some, if_pos rfl, sufs_empty]
    decide +kernel
  have hi : suffix_Inverse.f 40 [6, 5, 3, 1, 0, 4, 2] = some ([4, 3, 6, 2, 5, 1, 0], 0) := by decide +kernel
  have hi2 : suffix_Inverse.f 40 [0, 0] = some ([], 2) := by decide +kernel
  have hl : suffix_Array.f (List.replicate 8193 0) = some ([], 4) := arr_long _ (fun x hx => by rw [List.eq_of_mem_replicate hx]; omega) (by rw [List.length_replicate]; omega)
  have hn1 : haystackref07_Numbers.f 40 [6, 5, 3, 1, 0, 4, 2] [6, 5, 3, 1, 0, 4, 2] = some true := by decide +kernel
  have hn2 : haystackref07_Numbers.f 40 [4, 3, 6, 2, 5, 1, 0] [4, 3, 6, 2, 5, 1, 0] = some true := by decide +kernel
  have hs : suffix_Less.f [98, 97] 1 0 = some true := by decide +kernel
  rw [arr_f _ (by decide) (by decide), Option.bind_some, sufs_banana, hi, Option.bind_some, hi2, Option.bind_some, if_pos (by omega), hl, Option.bind_some, if_pos rfl, hn1, Option.bind_some, if_pos rfl, if_pos rfl, hn2, Option.bind_some, if_pos rfl, if_pos rfl, if_pos rfl, hc1, Option.bind_some, if_pos rfl, hc2, Option.bind_some, if_neg (by decide), hs]
  rfl

-- suffix.Less
theorem bcmp_lt : ∀ (a b : List Int), bcmp a b < 0 ↔ lexlt a b = true
  | [], [] => by decide
  | [], _ :: _ => by simp [bcmp, lexlt]
  | _ :: _, [] => by simp [bcmp, lexlt]
  | x :: a, y :: b => by
    have ih := bcmp_lt a b
    show (if x < y then (-1 : Int) else if y < x then 1 else bcmp a b) < 0 ↔ _
    rw [lexlt_cons]
    by_cases h1 : x < y
    · rw [if_pos h1]; simp [h1]
    · rw [if_neg h1]
      by_cases h2 : y < x
      · rw [if_pos h2]
        constructor
        · intro h; omega
        · rintro (h | ⟨h, _⟩) <;> omega
      · rw [if_neg h2, ih]
        constructor
        · intro h; exact .inr ⟨by omega, h⟩
        · rintro (h | ⟨_, h⟩)
          · omega
          · exact h

theorem less_f (l : List Int) (hb : ∀ x ∈ l, 0 ≤ x ∧ x < 256) (i j : Int) : suffix_Less.f l i j = some (decide (0 ≤ i ∧ 0 ≤ j ∧ i ≤ l.length ∧ j ≤ l.length) && lexlt (l.drop i.toNat) (l.drop j.toNat)) := by
  unfold suffix_Less.f mn mx
  by_cases h : 0 ≤ i ∧ 0 ≤ j ∧ i ≤ l.length ∧ j ≤ l.length
  · obtain ⟨h1, h2, h3, h4⟩ := h
    rw [if_neg (by split <;> omega), if_neg (by split <;> omega), if_pos h1, if_pos h3, if_pos h2, if_pos h4]
    have hc : bytes_Compare.f (l.drop i.toNat) (l.drop j.toNat) = some (bcmp (l.drop i.toNat) (l.drop j.toNat)) := by
      unfold bytes_Compare.f
      rw [if_pos]
      simp only [Bool.and_eq_true, List.all_eq_true, decide_eq_true_eq]
      exact ⟨fun x hx => hb x (List.mem_of_mem_drop hx), fun x hx => hb x (List.mem_of_mem_drop hx)⟩
    rw [hc, Option.bind_some, decide_eq_true (⟨h1, h2, h3, h4⟩ : 0 ≤ i ∧ 0 ≤ j ∧ i ≤ l.length ∧ j ≤ l.length), Bool.true_and]
    congr 1
    rw [Bool.eq_iff_iff, decide_eq_true_eq]
    exact bcmp_lt _ _
  · rw [decide_eq_false h, Bool.false_and]
    by_cases h1 : (if j < i then j else i) < 0
    · rw [if_pos h1]
    · rw [if_neg h1, if_pos]
      split <;> split at h1 <;> omega

theorem bytes_of_wf {l : List Int} (hw : ∀ x ∈ l, (Lit.int .u8 x).wf = true) : ∀ x ∈ l, 0 ≤ x ∧ x < 256 := by
  intro x hx
  have h := hw x hx
  simp [Lit.wf, IntKind.min, IntKind.max, IntKind.signed, IntKind.bits] at h
  omega

theorem sufs_at (l : List Int) (i : Nat) (hi : i < (sufN l).length) : rd (sufs l) (i : Int) = ((sufN l)[i] : Int) := by
  rw [rdn, List.getD_eq_getElem?_getD]
  unfold sufs
  rw [List.getElem?_map, List.getElem?_eq_getElem hi]
  rfl
theorem sufN_length (l : List Int) : (sufN l).length = l.length + 1 := by rw [(sufN_is l).perm.length_eq, List.length_range]
theorem sufN_le (l : List Int) (i : Nat) (hi : i < (sufN l).length) : (sufN l)[i] ≤ l.length := by
  have := ((sufN_is l).perm.mem_iff (a := (sufN l)[i])).1 (List.getElem_mem hi)
  have := List.mem_range.1 this
  omega
theorem sufN_ne (l : List Int) (q i : Nat) (h : q < i) (hi : i < (sufN l).length) : (sufN l)[q]'(by omega) ≠ (sufN l)[i] := by
  intro e
  have hs := List.pairwise_iff_getElem.1 (sufN_is l).sorted q i (by omega) hi h
  rw [e, lexlt_irrefl] at hs
  cases hs

end Go.Proofs.Ytclgeomjnpejmaa.PureLess
namespace Go.Proofs.Ytclgeomjnpejmaa.Pure
open Go.RowKit Go.Proofs.Ytclgeomjnpejmaa.PureLess Go.Proofs.Ytclgeomjnpejmaa.PSuffixLess Go.Proofs.YtclgeomjnpejmaaW.PrintWords Go.Proofs.YtclgeomjnpejmaaW.PrintLast Go.Proofs.MathSuf Go.Proofs.MathInv Go.Proofs.Ytclgeomjnpejmaa.Suf

theorem SuffixLess : haystacklaw17_SuffixLess.Pure := by
  intro l a1 a2 hm hB hw h1 h2
  have hb := bytes_of_wf hw
  have hh : haystacklaw17_heads.f 40 = some true := by have := heads_f 0; rwa [Nat.zero_add] at this
  obtain ⟨m, hm40⟩ : ∃ m, m = 40 := ⟨_, rfl⟩
  rw [← hm40] at hh
  have hj : haystacklaw17_SuffixLess.j0 (m + 1) l a1 a2 true = some true := by
    unfold haystacklaw17_SuffixLess.j0; try dsimp only
    have hmn : mn (l.length : Int) 10 ≤ l.length ∧ 0 ≤ mn (l.length : Int) 10 := by unfold mn; split <;> omega
    have hl : suffix_Less.f (l.take (mn (l.length : Int) 10).toNat) (-1) 0 = some false := by
      unfold suffix_Less.f
      rw [if_pos (by decide)]
    rw [if_pos rfl, if_pos hmn.2, if_pos hmn.1, hl, Option.bind_some, if_neg (by decide), hh]
    rfl
  refine ⟨m + 1, ?_⟩
  unfold haystacklaw17_SuffixLess.f
  by_cases c1 : (l.length : Int) > 3000
  · rw [if_pos c1]; exact hj
  rw [if_neg c1]
  by_cases c2 : a1 < 0
  · rw [if_pos c2]; exact hj
  rw [if_neg c2]
  by_cases c3 : a2 < 0
  · rw [if_pos c3]; exact hj
  rw [if_neg c3]
  by_cases c4 : a1 > (l.length : Int)
  · rw [if_pos c4]; exact hj
  rw [if_neg c4]
  by_cases c5 : a2 > (l.length : Int)
  · rw [decide_eq_true c5]; exact hj
  rw [decide_eq_false c5]
  unfold haystacklaw17_SuffixLess.j0; try dsimp only
  rw [if_neg (by decide), less_f l hb, less_f l hb, Option.bind_some, Option.bind_some, decide_eq_true (by omega : 0 ≤ a1 ∧ 0 ≤ a2 ∧ a1 ≤ l.length ∧ a2 ≤ l.length), decide_eq_true (by omega : 0 ≤ a2 ∧ 0 ≤ a1 ∧ a2 ≤ l.length ∧ a1 ≤ l.length), Bool.true_and, Bool.true_and]
  by_cases he : a1 = a2
  · subst he
    rw [lexlt_irrefl, if_neg (by decide), if_pos (by simp), hh]
    rfl
  · have hne : l.drop a1.toNat ≠ l.drop a2.toNat := fun e => he (by have := drop_inj (by omega) (by omega) e; omega)
    have hbn : (a1 != a2) = true := by simpa using he
    rw [hbn]
    rcases lexlt_total hne with h | h
    · rw [h, lexlt_asymm h, if_pos rfl, if_pos (by decide), if_neg (by decide), hh]
      rfl
    · rw [h, lexlt_asymm h, if_neg (by decide), if_pos (by decide), hh]
      rfl

end Go.Proofs.Ytclgeomjnpejmaa.Pure
