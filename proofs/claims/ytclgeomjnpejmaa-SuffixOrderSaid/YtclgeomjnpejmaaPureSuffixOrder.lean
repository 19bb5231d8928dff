import Derived.Test.YtclgeomjnpejmaaPSuffixOrderx3
import Derived.Test.YtclgeomjnpejmaaMathInv
namespace Go.Proofs.Ytclgeomjnpejmaa.PureOrder
open Go.RowKit Go.Proofs.Ytclgeomjnpejmaa.PSuffixOrder Go.Proofs.YtclgeomjnpejmaaW.PrintWords Go.Proofs.YtclgeomjnpejmaaW.PrintLast Go.Proofs.MathSuf Go.Proofs.MathInv Go.Proofs.Ytclgeomjnpejmaa.Suf
set_option linter.unusedVariables false
set_option linter.unusedSimpArgs false

theorem w64 (i : Nat) (h : i < 9000000000000000000) : wrap64 ((i : Int) + 1) = ((i + 1 : Nat) : Int) := by
  unfold wrap64
  omega
theorem rdn (l : List Int) (i : Nat) : rd l (i : Int) = l.getD i 0 := by simp [rd]

theorem num_l0 (x0 x1 : List Int) (hl : x0.length = x1.length) (hb : x0.length < 9000000000000000000) (c : Nat) : ∀ (m i : Nat), i + m = x0.length → haystackref07_Numbers.l0 (c + m + 1) x0 x1 (i : Int) = some (decide (x0.drop i = x1.drop i))
  | 0, i, h => by
    unfold haystackref07_Numbers.l0
    rw [if_neg (by omega), List.drop_of_length_le (by omega), List.drop_of_length_le (by omega)]
    rfl
  | m + 1, i, h => by
    unfold haystackref07_Numbers.l0
    rw [if_pos (by omega), if_pos (by omega), if_pos (by omega), rdn, rdn, w64 i (by omega)]
    have e0 : x0.drop i = x0.getD i 0 :: x0.drop (i + 1) := by
      rw [List.drop_eq_getElem_cons (by omega), List.getD_eq_getElem?_getD, List.getElem?_eq_getElem (by omega)]; rfl
    have e1 : x1.drop i = x1.getD i 0 :: x1.drop (i + 1) := by
      rw [List.drop_eq_getElem_cons (by omega), List.getD_eq_getElem?_getD, List.getElem?_eq_getElem (by omega)]; rfl
    rw [e0, e1]
    by_cases he : x0.getD i 0 = x1.getD i 0
    · rw [if_pos he]
      have ih := num_l0 x0 x1 hl hb c m (i + 1) (by omega)
      rw [show c + (m + 1) = c + m + 1 from rfl, ih, he]
      simp
    · rw [if_neg he]
      exact congrArg some (decide_eq_false fun e => he (List.cons.inj e).1).symm
theorem num_f (x0 x1 : List Int) (hb : x0.length < 9000000000000000000) (c : Nat) : haystackref07_Numbers.f (c + x0.length + 1) x0 x1 = some (decide (x0 = x1)) := by
  unfold haystackref07_Numbers.f
  by_cases h : x0.length = x1.length
  · rw [if_pos (by omega)]
    have := num_l0 x0 x1 h hb c x0.length 0 (by omega)
    simpa using this
  · rw [if_neg (by omega)]
    have : x0 ≠ x1 := fun e => h (by rw [e])
    simp [this]

theorem eq_l0 (x0 x1 : List Int) (hl : x0.length = x1.length) (hb : x0.length < 9000000000000000000) (c : Nat) : ∀ (m i : Nat), i + m = x0.length → slices_Equal_int_int.l0 (c + m + 1) x0 x1 (x0.length : Int) (i : Int) = some (decide (x0.drop i = x1.drop i))
  | 0, i, h => by
    unfold slices_Equal_int_int.l0
    rw [if_neg (by omega), List.drop_of_length_le (by omega), List.drop_of_length_le (by omega)]
    rfl
  | m + 1, i, h => by
    unfold slices_Equal_int_int.l0
    rw [if_pos (by omega), if_pos (by omega), if_pos (by omega), if_pos (by omega), rdn, rdn, w64 i (by omega)]
    have e0 : x0.drop i = x0.getD i 0 :: x0.drop (i + 1) := by
      rw [List.drop_eq_getElem_cons (by omega), List.getD_eq_getElem?_getD, List.getElem?_eq_getElem (by omega)]; rfl
    have e1 : x1.drop i = x1.getD i 0 :: x1.drop (i + 1) := by
      rw [List.drop_eq_getElem_cons (by omega), List.getD_eq_getElem?_getD, List.getElem?_eq_getElem (by omega)]; rfl
    rw [e0, e1]
    by_cases he : x0.getD i 0 = x1.getD i 0
    · rw [if_pos he]
      have ih := eq_l0 x0 x1 hl hb c m (i + 1) (by omega)
      rw [show c + (m + 1) = c + m + 1 from rfl, ih, he]
      simp
    · rw [if_neg he]
      exact congrArg some (decide_eq_false fun e => he (List.cons.inj e).1).symm
theorem eq_f (x0 x1 : List Int) (hb : x0.length < 9000000000000000000) (c : Nat) : slices_Equal_int_int.f (c + x0.length + 1) x0 x1 = some (decide (x0 = x1)) := by
  unfold slices_Equal_int_int.f
  by_cases h : x0.length = x1.length
  · rw [if_pos (by omega)]
    have := eq_l0 x0 x1 h hb c x0.length 0 (by omega)
    simpa using this
  · rw [if_neg (by omega)]
    have : x0 ≠ x1 := fun e => h (by rw [e])
    simp [this]

-- suffix.Inverse
theorem inv_l0 (l : List Int) (hb : l.length < 9000000000000000000) (c : Nat) : ∀ (m i : Nat) (x4 : List Int), x4.length = l.length → i + m = l.length → (∀ j, j < i → x4.getD j 0 = -1) →
    suffix_Inverse.l0 (c + m + 1) l x4 (l.length : Int) (i : Int) = suffix_Inverse.l1 c l (List.replicate l.length (-1)) l (l.length : Int) 0
  | 0, i, x4, h4, h, hm => by
    unfold suffix_Inverse.l0
    have e : x4 = List.replicate l.length (-1) := by
      apply List.ext_getElem (by simp [h4])
      intro j h1 h2
      have := hm j (by omega)
      rw [List.getD_eq_getElem?_getD, List.getElem?_eq_getElem h1] at this
      simpa using this
    rw [if_neg (by omega), e]
  | m + 1, i, x4, h4, h, hm => by
    unfold suffix_Inverse.l0
    rw [if_pos (by omega), if_pos (by omega), if_pos (by omega), w64 i (by omega), Int.toNat_natCast]
    refine inv_l0 l hb c m (i + 1) (x4.set i (-1)) (by simp [h4]) (by omega) fun j hj => ?_
    rw [List.getD_eq_getElem?_getD, List.getElem?_set]
    by_cases e : i = j
    · subst e; simp [h4, show i < l.length by omega]
    · rw [if_neg e, ← List.getD_eq_getElem?_getD]; exact hm j (by omega)

theorem inv_l1 (l : List Int) (hb : l.length < 9000000000000000000) (c : Nat) : ∀ (m i : Nat) (x4 : List Int), x4.length = l.length → i + m = l.length →
    (∀ p, p < i → 0 ≤ l.getD p 0 ∧ l.getD p 0 < l.length ∧ x4.getD (l.getD p 0).toNat 0 = (p : Int) ∧ ∀ q, q < p → l.getD q 0 ≠ l.getD p 0) → (∀ j, j < l.length → 0 ≤ x4.getD j 0 → ∃ p, p < i ∧ l.getD p 0 = (j : Int)) →
    ∃ r, suffix_Inverse.l1 (c + m + 1) l x4 l (l.length : Int) (i : Int) = some r ∧ InvSpec l r
  | 0, i, x4, h4, h, hp, hj => by
    refine ⟨(x4, 0), ?_, .inl ⟨fun p h1 => ?_, ⟨h4, fun p h1 => ?_⟩, rfl⟩⟩
    · unfold suffix_Inverse.l1
      rw [if_neg (by omega)]
    · have := hp p (by omega); exact ⟨this.1, this.2.1, this.2.2.2⟩
    · exact (hp p (by omega)).2.2.1
  | m + 1, i, x4, h4, h, hp, hj => by
    have hi : i < l.length := by omega
    unfold suffix_Inverse.l1
    rw [if_pos (by omega), if_pos (by omega), if_pos (by omega), rdn]
    obtain ⟨x, hx⟩ : ∃ x, l.getD i 0 = x := ⟨_, rfl⟩
    rw [hx]
    by_cases h0 : x < 0
    · rw [if_pos h0]
      exact ⟨_, rfl, .inr ⟨fun hg => by have := (hg i hi).1; omega, rfl⟩⟩
    rw [if_neg h0]
    by_cases h1 : x ≥ (l.length : Int)
    · rw [if_pos h1]
      exact ⟨_, rfl, .inr ⟨fun hg => by have := (hg i hi).2.1; omega, rfl⟩⟩
    rw [if_neg h1, if_pos (by omega), if_pos (by omega)]
    have er : rd x4 x = x4.getD x.toNat 0 := rfl
    rw [er]
    by_cases h2 : x4.getD x.toNat 0 ≥ 0
    · rw [if_pos h2]
      refine ⟨_, rfl, .inr ⟨fun hg => ?_, rfl⟩⟩
      obtain ⟨p, hpi, e⟩ := hj x.toNat (by omega) h2
      exact (hg i hi).2.2 p hpi (by omega)
    · rw [if_neg h2, w64 i (by omega)]
      refine inv_l1 l hb c m (i + 1) (x4.set x.toNat (i : Int)) (by simp [h4]) (by omega) (fun p hpi => ?_) fun j hjl hge => ?_
      · by_cases e : p = i
        · subst e
          rw [hx]
          refine ⟨by omega, by omega, ?_, fun q hq he => ?_⟩
          · rw [List.getD_eq_getElem?_getD, List.getElem?_set, if_pos rfl, if_pos (by omega)]; rfl
          · have h3 := (hp q hq).2.2.1
            rw [he] at h3
            omega
        · have h3 := hp p (by omega)
          refine ⟨h3.1, h3.2.1, ?_, h3.2.2.2⟩
          have hne : x.toNat ≠ (l.getD p 0).toNat := fun e2 => by
            have h4 := h3.2.2.1
            rw [← e2] at h4
            omega
          rw [List.getD_eq_getElem?_getD, List.getElem?_set, if_neg hne, ← List.getD_eq_getElem?_getD]
          exact h3.2.2.1
      · by_cases e : x.toNat = j
        · exact ⟨i, by omega, by omega⟩
        · rw [List.getD_eq_getElem?_getD, List.getElem?_set, if_neg e, ← List.getD_eq_getElem?_getD] at hge
          obtain ⟨p, hpi, e2⟩ := hj j hjl hge
          exact ⟨p, by omega, e2⟩

theorem inv_f (l : List Int) (hb : l.length ≤ 35184372088832) (c : Nat) : ∃ r, suffix_Inverse.f (c + (l.length + 1) + (l.length + 1)) l = some r ∧ InvSpec l r := by
  obtain ⟨r, hr, hs⟩ := inv_l1 l (by omega) c l.length 0 (List.replicate l.length (-1)) (by simp) (by omega) (fun p hp => by omega) (fun j hj hge => by
    rw [List.getD_eq_getElem?_getD, List.getElem?_eq_getElem (by simpa using hj)] at hge
    simp at hge)
  refine ⟨r, ?_, hs⟩
  unfold suffix_Inverse.f
  rw [if_pos (by omega), if_pos (by omega), Option.bind_some]
  have h0 := inv_l0 l (by omega) (c + (l.length + 1)) l.length 0 (List.replicate l.length 0) (by simp) (by omega) (fun j hj => by omega)
  rw [show c + (l.length + 1) + (l.length + 1) = c + (l.length + 1) + l.length + 1 by omega]
  simp only [Int.toNat_natCast, List.length_replicate]
  exact h0.trans hr

-- suffix.Array
theorem arr_f (l : List Int) (hb : ∀ x ∈ l, 0 ≤ x ∧ x < 256) (hl : l.length ≤ 8192) : suffix_Array.f l = some (sufs l, 0) := by
  unfold suffix_Array.f
  rw [if_pos (by simpa [List.all_eq_true] using hb), if_pos hl]
theorem arr_long (l : List Int) (hb : ∀ x ∈ l, 0 ≤ x ∧ x < 256) (hl : ¬ l.length ≤ 8192) : suffix_Array.f l = some ([], 4) := by
  unfold suffix_Array.f
  rw [if_pos (by simpa [List.all_eq_true] using hb), if_neg hl]
theorem sufs_empty : sufs [] = [0] := by
  have h : IsSuf [] [0] := ⟨by decide, by decide⟩
  exact sufs_of h
theorem sufs_banana : sufs [98, 97, 110, 97, 110, 97] = [6, 5, 3, 1, 0, 4, 2] := by
  have h : IsSuf [98, 97, 110, 97, 110, 97] [6, 5, 3, 1, 0, 4, 2] := ⟨by decide, by decide⟩
  exact sufs_of h

theorem up {α : Type} (f : Nat → Option α) (hm : ∀ k, LeO (f k) (f (k + 1))) {k : Nat} {r : α} (h : f k = some r) : ∀ c, f (c + k) = some r
  | 0 => by rw [Nat.zero_add]; exact h
  | c + 1 => by
    have := hm (c + k) r (up f hm h c)
    rwa [show c + 1 + k = c + k + 1 by omega]

theorem heads_f (c : Nat) : haystacklaw17_heads.f (c + 40) = some true := by
  refine up (fun k => haystacklaw17_heads.f k) haystacklaw17_heads.mono ?_ c
  unfold haystacklaw17_heads.f
  have hc1 : suffix_Check.f 40 [98, 97, 110, 97, 110, 97] [6, 5, 3, 1, 0, 4, 2] = some true := by
    unfold suffix_Check.f
    rw [arr_f _ (by decide) (by decide), Option.bind_some, if_pos rfl, sufs_banana]
    decide +kernel
  have hc2 : suffix_Check.f 40 [] [6, 5, 3, 1, 0, 4, 2] = some false := by
    unfold suffix_Check.f
    rw [arr_f _ (by decide) (by decide), Option.bind_some, if_pos rfl, sufs_empty]
    decide +kernel
  have hi : suffix_Inverse.f 40 [6, 5, 3, 1, 0, 4, 2] = some ([4, 3, 6, 2, 5, 1, 0], 0) := by decide +kernel
  have hi2 : suffix_Inverse.f 40 [0, 0] = some ([], 2) := by decide +kernel
  have hl : suffix_Array.f (List.replicate 8193 0) = some ([], 4) := arr_long _ (fun x hx => by rw [List.eq_of_mem_replicate hx]; omega) (by rw [List.length_replicate]; omega)
  have hn1 : haystackref07_Numbers.f 40 [6, 5, 3, 1, 0, 4, 2] [6, 5, 3, 1, 0, 4, 2] = some true := by decide +kernel
  have hn2 : haystackref07_Numbers.f 40 [4, 3, 6, 2, 5, 1, 0] [4, 3, 6, 2, 5, 1, 0] = some true := by decide +kernel
  have hs : suffix_Less.f [98, 97] 1 0 = some true := by decide +kernel
  rw [arr_f _ (by decide) (by decide), Option.bind_some, sufs_banana, hi, Option.bind_some, hi2, Option.bind_some, if_pos (by omega), hl, Option.bind_some, if_pos rfl, hn1, Option.bind_some, if_pos rfl, if_pos rfl, hn2, Option.bind_some, if_pos rfl, if_pos rfl, if_pos rfl, hc1, Option.bind_some, if_pos rfl, hc2, Option.bind_some, if_neg (by decide), hs]
  rfl

-- suffix.Less
theorem bcmp_lt : ∀ (a b : List Int), bcmp a b < 0 ↔ lexlt a b = true
  | [], [] => by decide
  | [], _ :: _ => by simp [bcmp, lexlt]
  | _ :: _, [] => by simp [bcmp, lexlt]
  | x :: a, y :: b => by
    have ih := bcmp_lt a b
    show (if x < y then (-1 : Int) else if y < x then 1 else bcmp a b) < 0 ↔ _
    rw [lexlt_cons]
    by_cases h1 : x < y
    · rw [if_pos h1]; simp [h1]
    · rw [if_neg h1]
      by_cases h2 : y < x
      · rw [if_pos h2]
        constructor
        · intro h; omega
        · rintro (h | ⟨h, _⟩) <;> omega
      · rw [if_neg h2, ih]
        constructor
        · intro h; exact .inr ⟨by omega, h⟩
        · rintro (h | ⟨_, h⟩)
          · omega
          · exact h

theorem less_f (l : List Int) (hb : ∀ x ∈ l, 0 ≤ x ∧ x < 256) (i j : Int) : suffix_Less.f l i j = some (decide (0 ≤ i ∧ 0 ≤ j ∧ i ≤ l.length ∧ j ≤ l.length) && lexlt (l.drop i.toNat) (l.drop j.toNat)) := by
  unfold suffix_Less.f mn mx
  by_cases h : 0 ≤ i ∧ 0 ≤ j ∧ i ≤ l.length ∧ j ≤ l.length
  · obtain ⟨h1, h2, h3, h4⟩ := h
    rw [if_neg (by split <;> omega), if_neg (by split <;> omega), if_pos h1, if_pos h3, if_pos h2, if_pos h4]
    have hc : bytes_Compare.f (l.drop i.toNat) (l.drop j.toNat) = some (bcmp (l.drop i.toNat) (l.drop j.toNat)) := by
      unfold bytes_Compare.f
      rw [if_pos]
      simp only [Bool.and_eq_true, List.all_eq_true, decide_eq_true_eq]
      exact ⟨fun x hx => hb x (List.mem_of_mem_drop hx), fun x hx => hb x (List.mem_of_mem_drop hx)⟩
    rw [hc, Option.bind_some, decide_eq_true (⟨h1, h2, h3, h4⟩ : 0 ≤ i ∧ 0 ≤ j ∧ i ≤ l.length ∧ j ≤ l.length), Bool.true_and]
    congr 1
    rw [Bool.eq_iff_iff, decide_eq_true_eq]
    exact bcmp_lt _ _
  · rw [decide_eq_false h, Bool.false_and]
    by_cases h1 : (if j < i then j else i) < 0
    · rw [if_pos h1]
    · rw [if_neg h1, if_pos]
      split <;> split at h1 <;> omega

theorem bytes_of_wf {l : List Int} (hw : ∀ x ∈ l, (Lit.int .u8 x).wf = true) : ∀ x ∈ l, 0 ≤ x ∧ x < 256 := by
  intro x hx
  have h := hw x hx
  simp [Lit.wf, IntKind.min, IntKind.max, IntKind.signed, IntKind.bits] at h
  omega

theorem sufs_at (l : List Int) (i : Nat) (hi : i < (sufN l).length) : rd (sufs l) (i : Int) = ((sufN l)[i] : Int) := by
  rw [rdn, List.getD_eq_getElem?_getD]
  unfold sufs
  rw [List.getElem?_map, List.getElem?_eq_getElem hi]
  rfl
theorem sufN_length (l : List Int) : (sufN l).length = l.length + 1 := by rw [(sufN_is l).perm.length_eq, List.length_range]
theorem sufN_le (l : List Int) (i : Nat) (hi : i < (sufN l).length) : (sufN l)[i] ≤ l.length := by
  have := ((sufN_is l).perm.mem_iff (a := (sufN l)[i])).1 (List.getElem_mem hi)
  have := List.mem_range.1 this
  omega
theorem sufN_ne (l : List Int) (q i : Nat) (h : q < i) (hi : i < (sufN l).length) : (sufN l)[q]'(by omega) ≠ (sufN l)[i] := by
  intro e
  have hs := List.pairwise_iff_getElem.1 (sufN_is l).sorted q i (by omega) hi h
  rw [e, lexlt_irrefl] at hs
  cases hs

-- strings of bytes
theorem bl_eq : ∀ (a b : List Int), (∀ x ∈ a, 0 ≤ x ∧ x < 256) → (∀ x ∈ b, 0 ≤ x ∧ x < 256) → Op.bytesLess (Lib.bytesOf a) (Lib.bytesOf b) = lexlt a b
  | [], [], _, _ => rfl
  | [], _ :: _, _, _ => rfl
  | _ :: _, [], _, _ => rfl
  | x :: a, y :: b, ha, hb => by
    have hx := ha x (List.mem_cons_self ..)
    have hy := hb y (List.mem_cons_self ..)
    have h1 := ofNat_lt x y hx hy
    have h2 : (UInt8.ofNat x.toNat == UInt8.ofNat y.toNat) = decide (x = y) := by
      rw [Bool.eq_iff_iff, decide_eq_true_eq, beq_iff_eq]
      constructor
      · intro h
        have := congrArg UInt8.toNat h
        simp only [UInt8.toNat_ofNat'] at this
        omega
      · intro h; rw [h]
    have ih := bl_eq a b (fun z hz => ha z (List.mem_cons_of_mem _ hz)) (fun z hz => hb z (List.mem_cons_of_mem _ hz))
    show (decide (UInt8.ofNat x.toNat < UInt8.ofNat y.toNat) || (UInt8.ofNat x.toNat == UInt8.ofNat y.toNat && Op.bytesLess (Lib.bytesOf a) (Lib.bytesOf b))) = (decide (x < y) || (decide (x = y) && lexlt a b))
    rw [ih, h2]
    congr 1
    rw [Bool.eq_iff_iff, decide_eq_true_eq, decide_eq_true_eq]
    exact h1
theorem bl_str (l : List Int) (hb : ∀ x ∈ l, 0 ≤ x ∧ x < 256) (i j : Nat) : Op.bytesLess (strOfNums (l.drop i)).toList (strOfNums (l.drop j)).toList = lexlt (l.drop i) (l.drop j) := by
  rw [Lib.strOfNums_toList, Lib.strOfNums_toList]
  exact bl_eq _ _ (fun x hx => hb x (List.mem_of_mem_drop hx)) (fun x hx => hb x (List.mem_of_mem_drop hx))

theorem ord_l0 (l : List Int) (hb : ∀ x ∈ l, 0 ≤ x ∧ x < 256) (hl : l.length ≤ 3000) (c : Nat) : ∀ (m i : Nat) (met : List Bool), met.length = l.length + 1 → i + m = l.length + 1 →
    (∀ j, j ≤ l.length → met.getD j false = true → ∃ q, ∃ hq : q < (sufN l).length, q < i ∧ (sufN l)[q] = j) → haystacklaw17_SuffixOrder.l0 (c + 40 + 2 * m + 1) l (sufs l) met (i : Int) = some true
  | 0, i, met, hm, h, hmet => by
    unfold haystacklaw17_SuffixOrder.l0; try dsimp only
    rw [if_neg (by rw [sufs_length]; omega), show c + 40 + 2 * 0 = c + 40 from rfl, heads_f c]
    rfl
  | m + 1, i, met, hm, h, hmet => by
    have hi : i < (sufN l).length := by rw [sufN_length]; omega
    have hle := sufN_le l i hi
    have hS := sufs_length l
    obtain ⟨x, hx⟩ : ∃ x, (sufN l)[i] = x := ⟨_, rfl⟩
    rw [hx] at hle
    have hmx : met.getD x false = false := by
      cases e : met.getD x false with
      | false => rfl
      | true =>
        obtain ⟨q, hq, hqi, he⟩ := hmet x hle e
        exact absurd (he.trans hx.symm) (sufN_ne l q i hqi hi)
    have e1 : rd (sufs l) (i : Int) = (x : Int) := by rw [sufs_at l i hi, hx]
    have hnext : haystacklaw17_SuffixOrder.l0 (c + 40 + 2 * m + 1) l (sufs l) (met.set x true) ((i + 1 : Nat) : Int) = some true := by
      refine ord_l0 l hb hl c m (i + 1) (met.set x true) (by simp [hm]) (by omega) fun j hj hset => ?_
      by_cases e : x = j
      · exact ⟨i, hi, by omega, by omega⟩
      · rw [List.getD_eq_getElem?_getD, List.getElem?_set, if_neg e, ← List.getD_eq_getElem?_getD] at hset
        obtain ⟨q, hq, hqi, he⟩ := hmet j hj hset
        exact ⟨q, hq, by omega, he⟩
    have hj2 : haystacklaw17_SuffixOrder.j2 (c + 40 + 2 * m + 1 + 1) l (sufs l) met (i : Int) false = some true := by
      unfold haystacklaw17_SuffixOrder.j2; try dsimp only
      rw [if_neg (by decide), if_pos (by omega), if_pos (by omega), e1, if_pos (by omega), if_pos (by omega), Option.bind_some, Int.toNat_natCast, w64 i (by omega)]
      by_cases h0 : (i : Int) > 0
      · have e2 : wrap64 ((i : Int) - 1) = ((i - 1 : Nat) : Int) := by unfold wrap64; omega
        have hi' : i - 1 < (sufN l).length := by omega
        have e3 : rd (sufs l) ((i - 1 : Nat) : Int) = ((sufN l)[i - 1] : Int) := sufs_at l (i - 1) hi'
        have hle' := sufN_le l (i - 1) hi'
        have hs := List.pairwise_iff_getElem.1 (sufN_is l).sorted (i - 1) i hi' hi (by omega)
        rw [hx] at hs
        rw [if_pos h0, e2, if_pos (by omega), if_pos (by omega), e3, if_pos (by omega), if_pos (by omega), if_pos (by omega), if_pos]
        · exact hnext
        · rw [bl_str l hb]; exact hs
      · rw [if_neg h0]; exact hnext
    rw [show c + 40 + 2 * (m + 1) + 1 = (c + 40 + 2 * m + 1 + 1) + 1 by omega]
    unfold haystacklaw17_SuffixOrder.l0; try dsimp only
    rw [if_pos (by omega), if_pos (by omega), e1, if_neg (by omega), if_neg (by omega), if_pos (by omega), if_pos (by omega), show rdOf false met (x : Int) = met.getD x false by simp [rdOf], hmx]
    exact hj2

end Go.Proofs.Ytclgeomjnpejmaa.PureOrder
namespace Go.Proofs.Ytclgeomjnpejmaa.Pure
open Go.RowKit Go.Proofs.Ytclgeomjnpejmaa.PureOrder Go.Proofs.Ytclgeomjnpejmaa.PSuffixOrder Go.Proofs.YtclgeomjnpejmaaW.PrintWords Go.Proofs.YtclgeomjnpejmaaW.PrintLast Go.Proofs.MathSuf Go.Proofs.MathInv Go.Proofs.Ytclgeomjnpejmaa.Suf

theorem SuffixOrder : haystacklaw17_SuffixOrder.Pure := by
  intro l hm hB hw
  have hb := bytes_of_wf hw
  by_cases c1 : (l.length : Int) > 3000
  · refine ⟨40, ?_⟩
    have hh := heads_f 0
    rw [Nat.zero_add] at hh
    unfold haystacklaw17_SuffixOrder.f
    rw [if_pos c1, hh]
    rfl
  · refine ⟨40 + 2 * (l.length + 1) + 1 + 1, ?_⟩
    have hS := sufs_length l
    unfold haystacklaw17_SuffixOrder.f
    rw [if_neg c1, arr_f l hb (by omega), Option.bind_some, if_pos rfl]
    have e : (((sufs l).length : Int) != wrap64 ((l.length : Int) + 1)) = false := by
      rw [w64 _ (by omega), hS]; simp
    show haystacklaw17_SuffixOrder.j0 _ l (sufs l) (((sufs l).length : Int) != wrap64 ((l.length : Int) + 1)) = some true
    rw [e]
    unfold haystacklaw17_SuffixOrder.j0; try dsimp only
    rw [if_neg (by decide), if_pos (by omega), if_pos (by omega)]
    have := ord_l0 l hb (by omega) 0 (l.length + 1) 0 (List.replicate (sufs l).length false) (by simp [hS]) (by omega) fun j hj h => by
      rw [List.getD_eq_getElem?_getD, List.getElem?_replicate] at h
      split at h <;> cases h
    rw [Nat.zero_add] at this
    exact this

end Go.Proofs.Ytclgeomjnpejmaa.Pure
