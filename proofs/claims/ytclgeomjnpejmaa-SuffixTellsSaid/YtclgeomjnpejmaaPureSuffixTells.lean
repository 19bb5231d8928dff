import Derived.Test.YtclgeomjnpejmaaPSuffixTellsx4
import Derived.Test.YtclgeomjnpejmaaMathInv
namespace Go.Proofs.Ytclgeomjnpejmaa.PureTells
open Go.RowKit Go.Proofs.Ytclgeomjnpejmaa.PSuffixTells Go.Proofs.YtclgeomjnpejmaaW.PrintWords Go.Proofs.YtclgeomjnpejmaaW.PrintLast Go.Proofs.MathSuf Go.Proofs.MathInv Go.Proofs.Ytclgeomjnpejmaa.Suf
set_option linter.unusedVariables false
set_option linter.unusedSimpArgs false

theorem w64 (i : Nat) (h : i < 9000000000000000000) : wrap64 ((i : Int) + 1) = ((i + 1 : Nat) : Int) := by
  unfold wrap64
  omega
theorem rdn (l : List Int) (i : Nat) : rd l (i : Int) = l.getD i 0 := by simp [rd]

theorem num_l0 (x0 x1 : List Int) (hl : x0.length = x1.length) (hb : x0.length < 9000000000000000000) (c : Nat) : ∀ (m i : Nat), i + m = x0.length → haystackref07_Numbers.l0 (c + m + 1) x0 x1 (i : Int) = some (decide (x0.drop i = x1.drop i))
  | 0, i, h => by
    unfold haystackref07_Numbers.l0
    rw [if_neg (by omega), List.drop_of_length_le (by omega), List.drop_of_length_le (by omega)]
    rfl
  | m + 1, i, h => by
    unfold haystackref07_Numbers.l0
    rw [if_pos (by omega), if_pos (by omega), if_pos (by omega), rdn, rdn, w64 i (by omega)]
    have e0 : x0.drop i = x0.getD i 0 :: x0.drop (i + 1) := by
      rw [List.drop_eq_getElem_cons (by omega), List.getD_eq_getElem?_getD, List.getElem?_eq_getElem (by omega)]; rfl
    have e1 : x1.drop i = x1.getD i 0 :: x1.drop (i + 1) := by
      rw [List.drop_eq_getElem_cons (by omega), List.getD_eq_getElem?_getD, List.getElem?_eq_getElem (by omega)]; rfl
    rw [e0, e1]
    by_cases he : x0.getD i 0 = x1.getD i 0
    · rw [if_pos he]
      have ih := num_l0 x0 x1 hl hb c m (i + 1) (by omega)
      rw [show c + (m + 1) = c + m + 1 from rfl, ih, he]
      simp
    · rw [if_neg he]
      exact congrArg some (decide_eq_false fun e => he (List.cons.inj e).1).symm
theorem num_f (x0 x1 : List Int) (hb : x0.length < 9000000000000000000) (c : Nat) : haystackref07_Numbers.f (c + x0.length + 1) x0 x1 = some (decide (x0 = x1)) := by
  unfold haystackref07_Numbers.f
  by_cases h : x0.length = x1.length
  · rw [if_pos (by omega)]
    have := num_l0 x0 x1 h hb c x0.length 0 (by omega)
    simpa using this
  · rw [if_neg (by omega)]
    have : x0 ≠ x1 := fun e => h (by rw [e])
    simp [this]

theorem eq_l0 (x0 x1 : List Int) (hl : x0.length = x1.length) (hb : x0.length < 9000000000000000000) (c : Nat) : ∀ (m i : Nat), i + m = x0.length → slices_Equal_int_int.l0 (c + m + 1) x0 x1 (x0.length : Int) (i : Int) = some (decide (x0.drop i = x1.drop i))
  | 0, i, h => by
    unfold slices_Equal_int_int.l0
    rw [if_neg (by omega), List.drop_of_length_le (by omega), List.drop_of_length_le (by omega)]
    rfl
  | m + 1, i, h => by
    unfold slices_Equal_int_int.l0
    rw [if_pos (by omega), if_pos (by omega), if_pos (by omega), if_pos (by omega), rdn, rdn, w64 i (by omega)]
    have e0 : x0.drop i = x0.getD i 0 :: x0.drop (i + 1) := by
      rw [List.drop_eq_getElem_cons (by omega), List.getD_eq_getElem?_getD, List.getElem?_eq_getElem (by omega)]; rfl
    have e1 : x1.drop i = x1.getD i 0 :: x1.drop (i + 1) := by
      rw [List.drop_eq_getElem_cons (by omega), List.getD_eq_getElem?_getD, List.getElem?_eq_getElem (by omega)]; rfl
    rw [e0, e1]
    by_cases he : x0.getD i 0 = x1.getD i 0
    · rw [if_pos he]
      have ih := eq_l0 x0 x1 hl hb c m (i + 1) (by omega)
      rw [show c + (m + 1) = c + m + 1 from rfl, ih, he]
      simp
    · rw [if_neg he]
      exact congrArg some (decide_eq_false fun e => he (List.cons.inj e).1).symm
theorem eq_f (x0 x1 : List Int) (hb : x0.length < 9000000000000000000) (c : Nat) : slices_Equal_int_int.f (c + x0.length + 1) x0 x1 = some (decide (x0 = x1)) := by
  unfold slices_Equal_int_int.f
  by_cases h : x0.length = x1.length
  · rw [if_pos (by omega)]
    have := eq_l0 x0 x1 h hb c x0.length 0 (by omega)
    simpa using this
  · rw [if_neg (by omega)]
    have : x0 ≠ x1 := fun e => h (by rw [e])
    simp [this]

-- suffix.Inverse
theorem inv_l0 (l : List Int) (hb : l.length < 9000000000000000000) (c : Nat) : ∀ (m i : Nat) (x4 : List Int), x4.length = l.length → i + m = l.length → (∀ j, j < i → x4.getD j 0 = -1) →
    suffix_Inverse.l0 (c + m + 1) l x4 (l.length : Int) (i : Int) = suffix_Inverse.l1 c l (List.replicate l.length (-1)) l (l.length : Int) 0
  | 0, i, x4, h4, h, hm => by
    unfold suffix_Inverse.l0
    have e : x4 = List.replicate l.length (-1) := by
      apply List.ext_getElem (by simp [h4])
      intro j h1 h2
      have := hm j (by omega)
      rw [List.getD_eq_getElem?_getD, List.getElem?_eq_getElem h1] at this
      simpa using this
    rw [if_neg (by omega), e]
  | m + 1, i, x4, h4, h, hm => by
    unfold suffix_Inverse.l0
    rw [if_pos (by omega), if_pos (by omega), if_pos (by omega), w64 i (by omega), Int.toNat_natCast]
    refine inv_l0 l hb c m (i + 1) (x4.set i (-1)) (by simp [h4]) (by omega) fun j hj => ?_
    rw [List.getD_eq_getElem?_getD, List.getElem?_set]
    by_cases e : i = j
    · subst e; simp [h4, show i < l.length by omega]
    · rw [if_neg e, ← List.getD_eq_getElem?_getD]; exact hm j (by omega)

theorem inv_l1 (l : List Int) (hb : l.length < 9000000000000000000) (c : Nat) : ∀ (m i : Nat) (x4 : List Int), x4.length = l.length → i + m = l.length →
    (∀ p, p < i → 0 ≤ l.getD p 0 ∧ l.getD p 0 < l.length ∧ x4.getD (l.getD p 0).toNat 0 = (p : Int) ∧ ∀ q, q < p → l.getD q 0 ≠ l.getD p 0) → (∀ j, j < l.length → 0 ≤ x4.getD j 0 → ∃ p, p < i ∧ l.getD p 0 = (j : Int)) →
    ∃ r, suffix_Inverse.l1 (c + m + 1) l x4 l (l.length : Int) (i : Int) = some r ∧ InvSpec l r
  | 0, i, x4, h4, h, hp, hj => by
    refine ⟨(x4, 0), ?_, .inl ⟨fun p h1 => ?_, ⟨h4, fun p h1 => ?_⟩, rfl⟩⟩
    · unfold suffix_Inverse.l1
      rw [if_neg (by omega)]
    · have := hp p (by omega); exact ⟨this.1, this.2.1, this.2.2.2⟩
    · exact (hp p (by omega)).2.2.1
  | m + 1, i, x4, h4, h, hp, hj => by
    have hi : i < l.length := by omega
    unfold suffix_Inverse.l1
    rw [if_pos (by omega), if_pos (by omega), if_pos (by omega), rdn]
    obtain ⟨x, hx⟩ : ∃ x, l.getD i 0 = x := ⟨_, rfl⟩
    rw [hx]
    by_cases h0 : x < 0
    · rw [if_pos h0]
      exact ⟨_, rfl, .inr ⟨fun hg => by have := (hg i hi).1; omega, rfl⟩⟩
    rw [if_neg h0]
    by_cases h1 : x ≥ (l.length : Int)
    · rw [if_pos h1]
      exact ⟨_, rfl, .inr ⟨fun hg => by have := (hg i hi).2.1; omega, rfl⟩⟩
    rw [if_neg h1, if_pos (by omega), if_pos (by omega)]
    have er : rd x4 x = x4.getD x.toNat 0 := rfl
    rw [er]
    by_cases h2 : x4.getD x.toNat 0 ≥ 0
    · rw [if_pos h2]
      refine ⟨_, rfl, .inr ⟨fun hg => ?_, rfl⟩⟩
      obtain ⟨p, hpi, e⟩ := hj x.toNat (by omega) h2
      exact (hg i hi).2.2 p hpi (by omega)
    · rw [if_neg h2, w64 i (by omega)]
      refine inv_l1 l hb c m (i + 1) (x4.set x.toNat (i : Int)) (by simp [h4]) (by omega) (fun p hpi => ?_) fun j hjl hge => ?_
      · by_cases e : p = i
        · subst e
          rw [hx]
          refine ⟨by omega, by omega, ?_, fun q hq he => ?_⟩
          · rw [List.getD_eq_getElem?_getD, List.getElem?_set, if_pos rfl, if_pos (by omega)]; rfl
          · have h3 := (hp q hq).2.2.1
            rw [he] at h3
            omega
        · have h3 := hp p (by omega)
          refine ⟨h3.1, h3.2.1, ?_, h3.2.2.2⟩
          have hne : x.toNat ≠ (l.getD p 0).toNat := fun e2 => by
            have h4 := h3.2.2.1
            rw [← e2] at h4
            omega
          rw [List.getD_eq_getElem?_getD, List.getElem?_set, if_neg hne, ← List.getD_eq_getElem?_getD]
          exact h3.2.2.1
      · by_cases e : x.toNat = j
        · exact ⟨i, by omega, by omega⟩
        · rw [List.getD_eq_getElem?_getD, List.getElem?_set, if_neg e, ← List.getD_eq_getElem?_getD] at hge
          obtain ⟨p, hpi, e2⟩ := hj j hjl hge
          exact ⟨p, by omega, e2⟩

theorem inv_f (l : List Int) (hb : l.length ≤ 35184372088832) (c : Nat) : ∃ r, suffix_Inverse.f (c + (l.length + 1) + (l.length + 1)) l = some r ∧ InvSpec l r := by
  obtain ⟨r, hr, hs⟩ := inv_l1 l (by omega) c l.length 0 (List.replicate l.length (-1)) (by simp) (by omega) (fun p hp => by omega) (fun j hj hge => by
    rw [List.getD_eq_getElem?_getD, List.getElem?_eq_getElem (by simpa using hj)] at hge
    simp at hge)
  refine ⟨r, ?_, hs⟩
  unfold suffix_Inverse.f
  rw [if_pos (by omega), if_pos (by omega), Option.bind_some]
  have h0 := inv_l0 l (by omega) (c + (l.length + 1)) l.length 0 (List.replicate l.length 0) (by simp) (by omega) (fun j hj => by omega)
  rw [show c + (l.length + 1) + (l.length + 1) = c + (l.length + 1) + l.length + 1 by omega]
  simp only [Int.toNat_natCast, List.length_replicate]
  exact h0.trans hr

-- suffix.Array
theorem arr_f (l : List Int) (hb : ∀ x ∈ l, 0 ≤ x ∧ x < 256) (hl : l.length ≤ 8192) : suffix_Array.f l = some (sufs l, 0) := by
  unfold suffix_Array.f
  rw [if_pos (by simpa [List.all_eq_true] using hb), if_pos hl]
theorem arr_long (l : List Int) (hb : ∀ x ∈ l, 0 ≤ x ∧ x < 256) (hl : ¬ l.length ≤ 8192) : suffix_Array.f l = some ([], 4) := by
  unfold suffix_Array.f
  rw [if_pos (by simpa [List.all_eq_true] using hb), if_neg hl]
theorem sufs_empty : sufs [] = [0] := by
  have h : IsSuf [] [0] := ⟨by decide, by decide⟩
  exact sufs_of h
theorem sufs_banana : sufs [98, 97, 110, 97, 110, 97] = [6, 5, 3, 1, 0, 4, 2] := by
  have h : IsSuf [98, 97, 110, 97, 110, 97] [6, 5, 3, 1, 0, 4, 2] := ⟨by decide, by decide⟩
  exact sufs_of h

theorem up {α : Type} (f : Nat → Option α) (hm : ∀ k, LeO (f k) (f (k + 1))) {k : Nat} {r : α} (h : f k = some r) : ∀ c, f (c + k) = some r
  | 0 => by rw [Nat.zero_add]; exact h
  | c + 1 => by
    have := hm (c + k) r (up f hm h c)
    rwa [show c + 1 + k = c + k + 1 by omega]

theorem heads_f (c : Nat) : haystacklaw17_heads.f (c + 40) = some true := by
  refine up (fun k => haystacklaw17_heads.f k) haystacklaw17_heads.mono ?_ c
  unfold haystacklaw17_heads.f
  have hc1 : suffix_Check.f 40 [98, 97, 110, 97, 110, 97] [6, 5, 3, 1, 0, 4, 2] = some true := by
    unfold suffix_Check.f
    rw [arr_f _ (by decide) (by decide), Option.bind_some, if_pos rfl, sufs_banana]
    decide +kernel
  have hc2 : suffix_Check.f 40 [] [6, 5, 3, 1, 0, 4, 2] = some false := by
    unfold suffix_Check.f
    rw [arr_f _ (by decide) (by decide), Option.bind_some, if_pos rfl, sufs_empty]
    decide +kernel
  have hi : suffix_Inverse.f 40 [6, 5, 3, 1, 0, 4, 2] = some ([4, 3, 6, 2, 5, 1, 0], 0) := by decide +kernel
  have hi2 : suffix_Inverse.f 40 [0, 0] = some ([], 2) := by decide +kernel
  have hl : suffix_Array.f (List.replicate 8193 0) = some ([], 4) := arr_long _ (fun x hx => by rw [List.eq_of_mem_replicate hx]; omega) (by rw [List.length_replicate]; omega)
  have hn1 : haystackref07_Numbers.f 40 [6, 5, 3, 1, 0, 4, 2] [6, 5, 3, 1, 0, 4, 2] = some true := by decide +kernel
  have hn2 : haystackref07_Numbers.f 40 [4, 3, 6, 2, 5, 1, 0] [4, 3, 6, 2, 5, 1, 0] = some true := by decide +kernel
  have hs : suffix_Less.f [98, 97] 1 0 = some true := by decide +kernel
  rw [arr_f _ (by decide) (by decide), Option.bind_some, sufs_banana, hi, Option.bind_some, hi2, Option.bind_some, if_pos (by omega), hl, Option.bind_some, if_pos rfl, hn1, Option.bind_some, if_pos rfl, if_pos rfl, hn2, Option.bind_some, if_pos rfl, if_pos rfl, if_pos rfl, hc1, Option.bind_some, if_pos rfl, hc2, Option.bind_some, if_neg (by decide), hs]
  rfl

-- suffix.Less
theorem bcmp_lt : ∀ (a b : List Int), bcmp a b < 0 ↔ lexlt a b = true
  | [], [] => by decide
  | [], _ :: _ => by simp [bcmp, lexlt]
  | _ :: _, [] => by simp [bcmp, lexlt]
  | x :: a, y :: b => by
    have ih := bcmp_lt a b
    show (if x < y then (-1 : Int) else if y < x then 1 else bcmp a b) < 0 ↔ _
    rw [lexlt_cons]
    by_cases h1 : x < y
    · rw [if_pos h1]; simp [h1]
    · rw [if_neg h1]
      by_cases h2 : y < x
      · rw [if_pos h2]
        constructor
        · intro h; omega
        · rintro (h | ⟨h, _⟩) <;> omega
      · rw [if_neg h2, ih]
        constructor
        · intro h; exact .inr ⟨by omega, h⟩
        · rintro (h | ⟨_, h⟩)
          · omega
          · exact h

theorem less_f (l : List Int) (hb : ∀ x ∈ l, 0 ≤ x ∧ x < 256) (i j : Int) : suffix_Less.f l i j = some (decide (0 ≤ i ∧ 0 ≤ j ∧ i ≤ l.length ∧ j ≤ l.length) && lexlt (l.drop i.toNat) (l.drop j.toNat)) := by
  unfold suffix_Less.f mn mx
  by_cases h : 0 ≤ i ∧ 0 ≤ j ∧ i ≤ l.length ∧ j ≤ l.length
  · obtain ⟨h1, h2, h3, h4⟩ := h
    rw [if_neg (by split <;> omega), if_neg (by split <;> omega), if_pos h1, if_pos h3, if_pos h2, if_pos h4]
    have hc : bytes_Compare.f (l.drop i.toNat) (l.drop j.toNat) = some (bcmp (l.drop i.toNat) (l.drop j.toNat)) := by
      unfold bytes_Compare.f
      rw [if_pos]
      simp only [Bool.and_eq_true, List.all_eq_true, decide_eq_true_eq]
      exact ⟨fun x hx => hb x (List.mem_of_mem_drop hx), fun x hx => hb x (List.mem_of_mem_drop hx)⟩
    rw [hc, Option.bind_some, decide_eq_true (⟨h1, h2, h3, h4⟩ : 0 ≤ i ∧ 0 ≤ j ∧ i ≤ l.length ∧ j ≤ l.length), Bool.true_and]
    congr 1
    rw [Bool.eq_iff_iff, decide_eq_true_eq]
    exact bcmp_lt _ _
  · rw [decide_eq_false h, Bool.false_and]
    by_cases h1 : (if j < i then j else i) < 0
    · rw [if_pos h1]
    · rw [if_neg h1, if_pos]
      split <;> split at h1 <;> omega

theorem bytes_of_wf {l : List Int} (hw : ∀ x ∈ l, (Lit.int .u8 x).wf = true) : ∀ x ∈ l, 0 ≤ x ∧ x < 256 := by
  intro x hx
  have h := hw x hx
  simp [Lit.wf, IntKind.min, IntKind.max, IntKind.signed, IntKind.bits] at h
  omega

theorem sufs_at (l : List Int) (i : Nat) (hi : i < (sufN l).length) : rd (sufs l) (i : Int) = ((sufN l)[i] : Int) := by
  rw [rdn, List.getD_eq_getElem?_getD]
  unfold sufs
  rw [List.getElem?_map, List.getElem?_eq_getElem hi]
  rfl
theorem sufN_length (l : List Int) : (sufN l).length = l.length + 1 := by rw [(sufN_is l).perm.length_eq, List.length_range]
theorem sufN_le (l : List Int) (i : Nat) (hi : i < (sufN l).length) : (sufN l)[i] ≤ l.length := by
  have := ((sufN_is l).perm.mem_iff (a := (sufN l)[i])).1 (List.getElem_mem hi)
  have := List.mem_range.1 this
  omega
theorem sufN_ne (l : List Int) (q i : Nat) (h : q < i) (hi : i < (sufN l).length) : (sufN l)[q]'(by omega) ≠ (sufN l)[i] := by
  intro e
  have hs := List.pairwise_iff_getElem.1 (sufN_is l).sorted q i (by omega) hi h
  rw [e, lexlt_irrefl] at hs
  cases hs


-- strings of bytes
theorem bl_eq : ∀ (a b : List Int), (∀ x ∈ a, 0 ≤ x ∧ x < 256) → (∀ x ∈ b, 0 ≤ x ∧ x < 256) → Op.bytesLess (Lib.bytesOf a) (Lib.bytesOf b) = lexlt a b
  | [], [], _, _ => rfl
  | [], _ :: _, _, _ => rfl
  | _ :: _, [], _, _ => rfl
  | x :: a, y :: b, ha, hb => by
    have hx := ha x (List.mem_cons_self ..)
    have hy := hb y (List.mem_cons_self ..)
    have h1 := ofNat_lt x y hx hy
    have h2 : (UInt8.ofNat x.toNat == UInt8.ofNat y.toNat) = decide (x = y) := by
      rw [Bool.eq_iff_iff, decide_eq_true_eq, beq_iff_eq]
      constructor
      · intro h
        have := congrArg UInt8.toNat h
        simp only [UInt8.toNat_ofNat'] at this
        omega
      · intro h; rw [h]
    have ih := bl_eq a b (fun z hz => ha z (List.mem_cons_of_mem _ hz)) (fun z hz => hb z (List.mem_cons_of_mem _ hz))
    show (decide (UInt8.ofNat x.toNat < UInt8.ofNat y.toNat) || (UInt8.ofNat x.toNat == UInt8.ofNat y.toNat && Op.bytesLess (Lib.bytesOf a) (Lib.bytesOf b))) = (decide (x < y) || (decide (x = y) && lexlt a b))
    rw [ih, h2]
    congr 1
    rw [Bool.eq_iff_iff, decide_eq_true_eq, decide_eq_true_eq]
    exact h1
theorem bl_str (l : List Int) (hb : ∀ x ∈ l, 0 ≤ x ∧ x < 256) (i j : Nat) : Op.bytesLess (strOfNums (l.drop i)).toList (strOfNums (l.drop j)).toList = lexlt (l.drop i) (l.drop j) := by
  rw [Lib.strOfNums_toList, Lib.strOfNums_toList]
  exact bl_eq _ _ (fun x hx => hb x (List.mem_of_mem_drop hx)) (fun x hx => hb x (List.mem_of_mem_drop hx))

def Ev {α : Type} (f : Nat → Option α) (r : α) : Prop := ∃ K, ∀ k, K ≤ k → f k = some r
theorem Ev.step {α : Type} {f g : Nat → Option α} {r : α} (h : Ev g r) (e : ∀ k, f (k + 1) = g k) : Ev f r := by
  obtain ⟨K, hK⟩ := h
  refine ⟨K + 1, fun k hk => ?_⟩
  obtain ⟨k', rfl⟩ : ∃ k', k = k' + 1 := ⟨k - 1, by omega⟩
  rw [e]
  exact hK k' (by omega)
theorem Ev.now {α : Type} {f : Nat → Option α} {r : α} (e : ∀ k, f (k + 1) = some r) : Ev f r :=
  ⟨1, fun k hk => by obtain ⟨k', rfl⟩ : ∃ k', k = k' + 1 := ⟨k - 1, by omega⟩; exact e k'⟩

-- the document's Less
theorem rless_f (l : List Int) (hb : ∀ x ∈ l, 0 ≤ x ∧ x < 256) (i j : Int) : haystackref17_Less.f l i j = some (decide (0 ≤ i ∧ 0 ≤ j ∧ i ≤ l.length ∧ j ≤ l.length) && lexlt (l.drop i.toNat) (l.drop j.toNat)) := by
  unfold haystackref17_Less.f
  by_cases h1 : i < 0
  · rw [if_pos h1, decide_eq_false (by omega)]; rfl
  rw [if_neg h1]
  by_cases h2 : j < 0
  · rw [if_pos h2, decide_eq_false (by omega)]; rfl
  rw [if_neg h2]
  by_cases h3 : i > (l.length : Int)
  · rw [if_pos h3, decide_eq_false (by omega)]; rfl
  rw [if_neg h3]
  by_cases h4 : j > (l.length : Int)
  · rw [if_pos h4, decide_eq_false (by omega)]; rfl
  rw [if_neg h4, if_pos (by omega), if_pos (by omega), if_pos (by omega), if_pos (by omega), bl_str l hb, decide_eq_true (by omega), Bool.true_and]

-- the document's Array: a row with one more in its place
theorem ra_l2 (x : List Int) (i : Nat) (out : List Int) (low : Nat) (r : List Int × Int) (hlow : low ≤ out.length) (hb : out.length < 9000000000000000000)
    (hfin : Ev (fun k => haystackref17_Array.l0 k x (out.take low ++ (i : Int) :: out.drop low) (wrap64 ((i : Int) - 1))) r) :
    ∀ (m k : Nat) (y : List Int), low + m = k → k ≤ out.length → y.length = out.length + 1 → (∀ q, q < k → y.getD q 0 = out.getD q 0) → (∀ q, k < q → q ≤ out.length → y.getD q 0 = out.getD (q - 1) 0) →
      Ev (fun f => haystackref17_Array.l2 f x y (i : Int) (low : Int) (k : Int)) r
  | 0, k, y, hk, hkl, hy, h1, h2 => by
    refine Ev.step hfin fun f => ?_
    have e : y.set low (i : Int) = out.take low ++ (i : Int) :: out.drop low := by
      apply List.ext_getElem (by simp [hy]; omega)
      intro q hq1 hq2
      rw [List.length_set] at hq1
      rw [List.getElem_set, List.getElem_append]
      by_cases hql : q < low
      · have := h1 q (by omega)
        rw [List.getD_eq_getElem?_getD, List.getD_eq_getElem?_getD, List.getElem?_eq_getElem hq1, List.getElem?_eq_getElem (by omega : q < out.length)] at this
        rw [if_neg (by omega), dif_pos (by rw [List.length_take]; omega), List.getElem_take]
        exact this
      · rw [dif_neg (by rw [List.length_take]; omega)]
        by_cases e : low = q
        · subst e
          simp [hlow, Nat.min_eq_left]
        · have := h2 q (by omega) (by omega)
          rw [List.getD_eq_getElem?_getD, List.getD_eq_getElem?_getD, List.getElem?_eq_getElem hq1, List.getElem?_eq_getElem (by omega : q - 1 < out.length)] at this
          rw [if_neg e, List.getElem_cons, dif_neg (by rw [List.length_take]; omega), List.getElem_drop]
          have e3 : low + (q - (out.take low).length - 1) = q - 1 := by rw [List.length_take]; omega
          simp only [e3]
          exact this
    show haystackref17_Array.l2 (f + 1) x y (i : Int) (low : Int) (k : Int) = _
    (conv => lhs; unfold haystackref17_Array.l2)
    try dsimp only
    rw [if_neg (by omega), if_pos (by omega), if_pos (by omega), Int.toNat_natCast, e]
  | m + 1, k, y, hk, hkl, hy, h1, h2 => by
    refine Ev.step (ra_l2 x i out low r hlow hb hfin m (k - 1) (y.set k (y.getD (k - 1) 0)) (by omega) (by omega) (by simp [hy]) (fun q hq => ?_) (fun q hq hql => ?_)) fun f => ?_
    · rw [List.getD_eq_getElem?_getD, List.getElem?_set, if_neg (by omega), ← List.getD_eq_getElem?_getD]
      exact h1 q (by omega)
    · rw [List.getD_eq_getElem?_getD, List.getElem?_set]
      by_cases e : k = q
      · subst e
        rw [if_pos rfl, if_pos (by omega)]
        exact h1 (k - 1) (by omega)
      · rw [if_neg e, ← List.getD_eq_getElem?_getD]
        exact h2 q (by omega) hql
    · show haystackref17_Array.l2 (f + 1) x y (i : Int) (low : Int) (k : Int) = _
      have e1 : wrap64 ((k : Int) - 1) = ((k - 1 : Nat) : Int) := by unfold wrap64; omega
      (conv => lhs; unfold haystackref17_Array.l2)
      try dsimp only
      rw [if_pos (by omega), e1, if_pos (by omega), if_pos (by omega), if_pos (by omega), if_pos (by omega), rdn, Int.toNat_natCast]

theorem ra_l1 (x : List Int) (hb : ∀ z ∈ x, 0 ≤ z ∧ z < 256) (hx : x.length ≤ 8192) (i : Nat) (hi : i < x.length) (s : List Nat) (hs : ∀ z ∈ s, z ≤ x.length) (hsl : s.length ≤ 8193) (r : List Int × Int)
    (hsort : s.Pairwise fun a b => lexlt (x.drop a) (x.drop b) = true)
    (hfin : ∀ low, low ≤ s.length → (∀ q (h : q < s.length), q < low → lexlt (x.drop s[q]) (x.drop i) = true) → (∀ q (h : q < s.length), low ≤ q → ¬ lexlt (x.drop s[q]) (x.drop i) = true) →
      Ev (fun k => haystackref17_Array.l0 k x ((s.map fun z : Nat => (z : Int)).take low ++ (i : Int) :: (s.map fun z : Nat => (z : Int)).drop low) (wrap64 ((i : Int) - 1))) r) :
    ∀ (m low high : Nat), low + m = high → high ≤ s.length → (∀ q (h : q < s.length), q < low → lexlt (x.drop s[q]) (x.drop i) = true) → (∀ q (h : q < s.length), high ≤ q → ¬ lexlt (x.drop s[q]) (x.drop i) = true) →
      Ev (fun f => haystackref17_Array.l1 f x (s.map fun z : Nat => (z : Int)) (i : Int) (low : Int) (high : Int)) r := by
  intro m
  induction m using Nat.strongRecOn with
  | _ m ih =>
    intro low high hm hh h1 h2
    by_cases hlt : low < high
    · obtain ⟨mid, hmid⟩ : ∃ mid, mid = (low + high) / 2 := ⟨_, rfl⟩
      have hml : mid < s.length := by omega
      have e1 : wrap64 (Int.tdiv (wrap64 ((low : Int) + (high : Int))) 2) = (mid : Int) := by
        have e2 : wrap64 ((low : Int) + (high : Int)) = ((low + high : Nat) : Int) := by unfold wrap64; omega
        rw [e2, Int.tdiv_eq_ediv_of_nonneg (by omega)]
        unfold wrap64
        omega
      have e3 : rd (s.map fun z : Nat => (z : Int)) (mid : Int) = (s[mid] : Int) := by
        rw [rdn, List.getD_eq_getElem?_getD, List.getElem?_map, List.getElem?_eq_getElem hml]
        rfl
      have hsm := hs s[mid] (List.getElem_mem hml)
      have e4 : haystackref17_Less.f x (s[mid] : Int) (i : Int) = some (lexlt (x.drop s[mid]) (x.drop i)) := by
        rw [rless_f x hb, decide_eq_true (by omega), Bool.true_and, Int.toNat_natCast, Int.toNat_natCast]
      by_cases hl : lexlt (x.drop s[mid]) (x.drop i) = true
      · refine Ev.step (ih (high - (mid + 1)) (by omega) (mid + 1) high (by omega) hh (fun q h hq => ?_) h2) fun f => ?_
        · by_cases e : q = mid
          · subst e; exact hl
          · exact lexlt_trans (List.pairwise_iff_getElem.1 hsort q mid h hml (by omega)) hl
        · show haystackref17_Array.l1 (f + 1) x _ (i : Int) (low : Int) (high : Int) = _
          (conv => lhs; unfold haystackref17_Array.l1)
          try dsimp only
          rw [if_pos (by omega), e1, if_pos (by omega), if_pos (by rw [List.length_map]; omega), e3, e4, Option.bind_some, if_pos hl, w64 mid (by omega)]
      · refine Ev.step (ih (mid - low) (by omega) low mid (by omega) (by omega) h1 (fun q h hq => ?_)) fun f => ?_
        · by_cases e : q = mid
          · subst e; exact hl
          · intro hq'
            exact hl (lexlt_trans (List.pairwise_iff_getElem.1 hsort mid q hml h (by omega)) hq')
        · show haystackref17_Array.l1 (f + 1) x _ (i : Int) (low : Int) (high : Int) = _
          (conv => lhs; unfold haystackref17_Array.l1)
          try dsimp only
          rw [if_pos (by omega), e1, if_pos (by omega), if_pos (by rw [List.length_map]; omega), e3, e4, Option.bind_some, if_neg hl]
    · have hlh : high = low := by omega
      subst hlh
      have hlen : (s.map fun z : Nat => (z : Int)).length = s.length := List.length_map ..
      have hz := ra_l2 x i (s.map fun z : Nat => (z : Int)) high r (by omega) (by omega) (hfin high hh h1 h2) (s.length - high) s.length ((s.map fun z : Nat => (z : Int)) ++ [0]) (by omega) (by omega) (by simp) (fun q hq => ?_) (fun q hq hq2 => by omega)
      · refine Ev.step hz fun f => ?_
        show haystackref17_Array.l1 (f + 1) x _ (i : Int) (high : Int) (high : Int) = _
        (conv => lhs; unfold haystackref17_Array.l1)
        try dsimp only
        have e5 : wrap64 ((((s.map fun z : Nat => (z : Int)) ++ [0]).length : Int) - 1) = ((s.length : Nat) : Int) := by
          rw [List.length_append, hlen]
          unfold wrap64
          simp only [List.length_cons, List.length_nil]
          omega
        rw [if_neg (by omega), if_pos (by omega), Option.bind_some, e5]
      · rw [List.getD_eq_getElem?_getD, List.getElem?_append_left (by omega), ← List.getD_eq_getElem?_getD]

theorem ra_l0 (x : List Int) (hb : ∀ z ∈ x, 0 ≤ z ∧ z < 256) (hx : x.length ≤ 8192) : ∀ (j : Nat) (s : List Nat), j ≤ x.length → s.Perm (List.range' j (x.length + 1 - j)) → (s.Pairwise fun a b => lexlt (x.drop a) (x.drop b) = true) →
    Ev (fun k => haystackref17_Array.l0 k x (s.map fun z : Nat => (z : Int)) ((j : Int) - 1)) (sufs x, 0)
  | 0, s, hj, hp, hs => by
    have hI : IsSuf x s := ⟨by rw [List.range_eq_range']; exact hp, hs⟩
    refine Ev.now fun k => ?_
    show haystackref17_Array.l0 (k + 1) x _ (((0 : Nat) : Int) - 1) = _
    (conv => lhs; unfold haystackref17_Array.l0)
    try dsimp only
    rw [if_neg (by omega), sufs_of hI]
  | i + 1, s, hj, hp, hs => by
    have hlen := hp.length_eq
    rw [List.length_range'] at hlen
    have hmem : ∀ z ∈ s, i + 1 ≤ z ∧ z ≤ x.length := by
      intro z hz
      have := List.mem_range'_1.1 (hp.mem_iff.1 hz)
      omega
    have hne : ∀ z ∈ s, x.drop z ≠ x.drop i := by
      intro z hz e
      have h1 := hmem z hz
      have := drop_inj (by omega) (by omega) e
      omega
    have hl1 := ra_l1 x hb hx i (by omega) s (fun z hz => (hmem z hz).2) (by omega) (sufs x, 0) hs (fun low hlow h1 h2 => ?_) s.length 0 s.length (by omega) (by omega) (fun q h hq => by omega) (fun q h hq => by omega)
    · refine Ev.step hl1 fun k => ?_
      show haystackref17_Array.l0 (k + 1) x _ (((i + 1 : Nat) : Int) - 1) = _
      (conv => lhs; unfold haystackref17_Array.l0)
      try dsimp only
      rw [if_pos (by omega), List.length_map, show ((i + 1 : Nat) : Int) - 1 = (i : Int) by omega]
      rfl
    · have e1 : wrap64 ((i : Int) - 1) = (i : Int) - 1 := by unfold wrap64; omega
      have hz := ra_l0 x hb hx i (s.take low ++ i :: s.drop low) (by omega) ?_ ?_
      · rw [List.map_append, List.map_cons, List.map_take, List.map_drop] at hz
        rw [e1]
        exact hz
      · refine (List.perm_middle).trans ?_
        rw [List.take_append_drop, show x.length + 1 - i = (x.length + 1 - (i + 1)) + 1 by omega, List.range'_succ]
        exact List.Perm.cons i hp
      · rw [List.pairwise_append]
        have hd := List.pairwise_append.1 (by rw [List.take_append_drop]; exact hs : (s.take low ++ s.drop low).Pairwise fun a b => lexlt (x.drop a) (x.drop b) = true)
        have hlo : ∀ a ∈ s.take low, lexlt (x.drop a) (x.drop i) = true := by
          intro a ha
          obtain ⟨q, hq, rfl⟩ := List.mem_iff_getElem.1 ha
          rw [List.length_take] at hq
          rw [List.getElem_take]
          exact h1 q (by omega) (by omega)
        have hhi : ∀ b ∈ s.drop low, lexlt (x.drop i) (x.drop b) = true := by
          intro b hb'
          have hbs := List.mem_of_mem_drop hb'
          obtain ⟨q, hq, rfl⟩ := List.mem_iff_getElem.1 hb'
          rw [List.length_drop] at hq
          rw [List.getElem_drop] at hbs ⊢
          have h3 := h2 (low + q) (by omega) (by omega)
          rcases lexlt_total (hne _ hbs) with h | h
          · exact absurd h h3
          · exact h
        refine ⟨hd.1, List.pairwise_cons.2 ⟨hhi, hd.2.1⟩, fun a ha b hb' => ?_⟩
        rcases List.mem_cons.1 hb' with rfl | hb''
        · exact hlo a ha
        · exact hd.2.2 a ha b hb''

theorem ra_f (x : List Int) (hb : ∀ z ∈ x, 0 ≤ z ∧ z < 256) (hx : x.length ≤ 8192) : Ev (fun k => haystackref17_Array.f k x) (sufs x, 0) := by
  obtain ⟨K, hK⟩ := ra_l0 x hb hx x.length [x.length] (Nat.le_refl _) (by rw [show x.length + 1 - x.length = 1 by omega]; exact List.Perm.refl _) (List.pairwise_singleton _ _)
  refine ⟨K, fun k hk => ?_⟩
  show haystackref17_Array.f k x = _
  unfold haystackref17_Array.f
  rw [if_neg (by omega), show wrap64 ((x.length : Int) - 1) = (x.length : Int) - 1 by unfold wrap64; omega]
  exact hK k hk

-- the document's Inverse
theorem ri_l0 (l : List Int) (hb : l.length < 9000000000000000000) : ∀ (m i : Nat) (x4 : List Int) (x5 : List Bool), x4.length = l.length → x5.length = l.length → i + m = l.length →
    (∀ p, p < i → 0 ≤ l.getD p 0 ∧ l.getD p 0 < l.length ∧ x4.getD (l.getD p 0).toNat 0 = (p : Int) ∧ (∀ q, q < p → l.getD q 0 ≠ l.getD p 0) ∧ x5.getD (l.getD p 0).toNat false = true) → (∀ j, j < l.length → x5.getD j false = true → ∃ p, p < i ∧ l.getD p 0 = (j : Int)) →
    ∃ r, InvSpec l r ∧ Ev (fun k => haystackref17_Inverse.l0 k l x4 x5 (i : Int)) r
  | 0, i, x4, x5, h4, h5, h, hp, hj => by
    refine ⟨(x4, 0), .inl ⟨fun p h1 => ?_, ⟨h4, fun p h1 => ?_⟩, rfl⟩, Ev.now fun k => ?_⟩
    · have := hp p (by omega); exact ⟨this.1, this.2.1, this.2.2.2.1⟩
    · exact (hp p (by omega)).2.2.1
    · show haystackref17_Inverse.l0 (k + 1) l x4 x5 (i : Int) = _
      (conv => lhs; unfold haystackref17_Inverse.l0)
      try dsimp only
      rw [if_neg (by omega)]
  | m + 1, i, x4, x5, h4, h5, h, hp, hj => by
    have hi : i < l.length := by omega
    obtain ⟨x, hx⟩ : ∃ x, l.getD i 0 = x := ⟨_, rfl⟩
    have er : rd l (i : Int) = x := by rw [rdn, hx]
    by_cases h0 : x < 0
    · refine ⟨([], 2), .inr ⟨fun hg => by have := (hg i hi).1; omega, rfl⟩, Ev.now fun k => ?_⟩
      show haystackref17_Inverse.l0 (k + 1) l x4 x5 (i : Int) = _
      (conv => lhs; unfold haystackref17_Inverse.l0)
      try dsimp only
      rw [if_pos (by omega), if_pos (by omega), er, if_pos h0]
    by_cases h1 : x ≥ (l.length : Int)
    · refine ⟨([], 2), .inr ⟨fun hg => by have := (hg i hi).2.1; omega, rfl⟩, Ev.now fun k => ?_⟩
      show haystackref17_Inverse.l0 (k + 1) l x4 x5 (i : Int) = _
      (conv => lhs; unfold haystackref17_Inverse.l0)
      try dsimp only
      rw [if_pos (by omega), if_pos (by omega), er, if_neg h0, if_pos h1]
    have e5 : rdOf false x5 x = x5.getD x.toNat false := rfl
    cases h2 : x5.getD x.toNat false with
    | true =>
      refine ⟨([], 2), .inr ⟨fun hg => ?_, rfl⟩, Ev.now fun k => ?_⟩
      · obtain ⟨p, hpi, e⟩ := hj x.toNat (by omega) h2
        exact (hg i hi).2.2 p hpi (by omega)
      · show haystackref17_Inverse.l0 (k + 1) l x4 x5 (i : Int) = _
        (conv => lhs; unfold haystackref17_Inverse.l0)
        try dsimp only
        rw [if_pos (by omega), if_pos (by omega), er, if_neg h0, if_neg h1, if_pos (by omega), if_pos (by omega), e5, if_pos h2]
    | false =>
      have hrec := ri_l0 l hb m (i + 1) (x4.set x.toNat (i : Int)) (x5.set x.toNat true) (by simp [h4]) (by simp [h5]) (by omega) (fun p hpi => ?_) (fun j hjl hge => ?_)
      · obtain ⟨r, hr, hE⟩ := hrec
        refine ⟨r, hr, Ev.step hE fun k => ?_⟩
        show haystackref17_Inverse.l0 (k + 1) l x4 x5 (i : Int) = _
        (conv => lhs; unfold haystackref17_Inverse.l0)
        try dsimp only
        rw [if_pos (by omega), if_pos (by omega), er, if_neg h0, if_neg h1, if_pos (by omega), if_pos (by omega), e5, if_neg (by rw [h2]; decide), if_pos (by omega), w64 i (by omega)]
      · by_cases e : p = i
        · subst e
          rw [hx]
          refine ⟨by omega, by omega, ?_, fun q hq he => ?_, ?_⟩
          · rw [List.getD_eq_getElem?_getD, List.getElem?_set, if_pos rfl, if_pos (by omega)]; rfl
          · have h3 := (hp q hq).2.2.2.2
            rw [he, h2] at h3
            cases h3
          · rw [List.getD_eq_getElem?_getD, List.getElem?_set, if_pos rfl, if_pos (by omega)]; rfl
        · have h3 := hp p (by omega)
          have hne : x.toNat ≠ (l.getD p 0).toNat := fun e2 => by
            have h4 := h3.2.2.2.2
            rw [← e2, h2] at h4
            cases h4
          refine ⟨h3.1, h3.2.1, ?_, h3.2.2.2.1, ?_⟩
          · rw [List.getD_eq_getElem?_getD, List.getElem?_set, if_neg hne, ← List.getD_eq_getElem?_getD]
            exact h3.2.2.1
          · rw [List.getD_eq_getElem?_getD, List.getElem?_set, if_neg hne, ← List.getD_eq_getElem?_getD]
            exact h3.2.2.2.2
      · by_cases e : x.toNat = j
        · exact ⟨i, by omega, by omega⟩
        · rw [List.getD_eq_getElem?_getD, List.getElem?_set, if_neg e, ← List.getD_eq_getElem?_getD] at hge
          obtain ⟨p, hpi, e2⟩ := hj j hjl hge
          exact ⟨p, by omega, e2⟩
theorem ri_f (l : List Int) (hb : l.length ≤ 35184372088832) : ∃ r, InvSpec l r ∧ Ev (fun k => haystackref17_Inverse.f k l) r := by
  obtain ⟨r, hr, K, hK⟩ := ri_l0 l (by omega) l.length 0 (List.replicate l.length 0) (List.replicate l.length false) (by simp) (by simp) (by omega) (fun p hp => by omega) (fun j hj h => by
    rw [List.getD_eq_getElem?_getD, List.getElem?_replicate] at h
    split at h <;> cases h)
  refine ⟨r, hr, K, fun k hk => ?_⟩
  show haystackref17_Inverse.f k l = _
  unfold haystackref17_Inverse.f
  rw [if_pos (by omega), if_pos (by omega), if_pos (by omega), Int.toNat_natCast]
  exact hK k hk
theorem invSpec_unique {l : List Int} {r r' : List Int × Int} (h : InvSpec l r) (h' : InvSpec l r') : r = r' := by
  rcases h with ⟨hg, hi, he⟩ | ⟨hg, he⟩ <;> rcases h' with ⟨hg', hi', he'⟩ | ⟨hg', he'⟩
  · exact Prod.ext (hi.unique hg hi') (by rw [he, he'])
  · exact absurd hg hg'
  · exact absurd hg' hg
  · rw [he, he']

-- the document's Check
theorem rc_l0 (x1 x5 : List Int) (hl : x5.length = x1.length) (hb : x5.length < 9000000000000000000) : ∀ (m i : Nat), i + m = x5.length → Ev (fun k => haystackref17_Check.l0 k x1 x5 (i : Int)) (decide (x5.drop i = x1.drop i))
  | 0, i, h => by
    refine Ev.now fun k => ?_
    show haystackref17_Check.l0 (k + 1) x1 x5 (i : Int) = _
    (conv => lhs; unfold haystackref17_Check.l0)
    try dsimp only
    rw [if_neg (by omega), List.drop_of_length_le (by omega), List.drop_of_length_le (by omega)]
    rfl
  | m + 1, i, h => by
    have e0 : x5.drop i = x5.getD i 0 :: x5.drop (i + 1) := by
      rw [List.drop_eq_getElem_cons (by omega), List.getD_eq_getElem?_getD, List.getElem?_eq_getElem (by omega)]; rfl
    have e1 : x1.drop i = x1.getD i 0 :: x1.drop (i + 1) := by
      rw [List.drop_eq_getElem_cons (by omega), List.getD_eq_getElem?_getD, List.getElem?_eq_getElem (by omega)]; rfl
    by_cases he : x5.getD i 0 = x1.getD i 0
    · have e2 : decide (x5.drop i = x1.drop i) = decide (x5.drop (i + 1) = x1.drop (i + 1)) := by rw [e0, e1, he]; simp
      rw [e2]
      refine Ev.step (rc_l0 x1 x5 hl hb m (i + 1) (by omega)) fun k => ?_
      show haystackref17_Check.l0 (k + 1) x1 x5 (i : Int) = _
      (conv => lhs; unfold haystackref17_Check.l0)
      try dsimp only
      rw [if_pos (by omega), if_pos (by omega), if_pos (by omega), rdn, rdn, if_pos he, w64 i (by omega)]
    · have e2 : decide (x5.drop i = x1.drop i) = false := decide_eq_false fun e => he (by rw [e0, e1] at e; exact (List.cons.inj e).1)
      rw [e2]
      refine Ev.now fun k => ?_
      show haystackref17_Check.l0 (k + 1) x1 x5 (i : Int) = _
      (conv => lhs; unfold haystackref17_Check.l0)
      try dsimp only
      rw [if_pos (by omega), if_pos (by omega), if_pos (by omega), rdn, rdn, if_neg he]
theorem rc_f (l sa : List Int) (hb : ∀ z ∈ l, 0 ≤ z ∧ z < 256) (hx : l.length ≤ 8192) : Ev (fun k => haystackref17_Check.f k l sa) (decide (sufs l = sa)) := by
  obtain ⟨K1, h1⟩ := ra_f l hb hx
  have hS := sufs_length l
  have hj : Ev (fun k => haystackref17_Check.j0 k sa (sufs l) (((sufs l).length : Int) != (sa.length : Int))) (decide (sufs l = sa)) := by
    by_cases e : (sufs l).length = sa.length
    · have := rc_l0 sa (sufs l) e (by omega) (sufs l).length 0 (by omega)
      rw [List.drop_zero, List.drop_zero] at this
      refine Ev.step this fun k => ?_
      show haystackref17_Check.j0 (k + 1) sa (sufs l) _ = _
      rw [show (((sufs l).length : Int) != (sa.length : Int)) = false by simp [e]]
      (conv => lhs; unfold haystackref17_Check.j0)
      try dsimp only
      rw [if_neg (by decide)]
      rfl
    · rw [decide_eq_false (fun h => e (by rw [h]))]
      refine Ev.now fun k => ?_
      show haystackref17_Check.j0 (k + 1) sa (sufs l) _ = _
      rw [show (((sufs l).length : Int) != (sa.length : Int)) = true by simpa using (fun h : ((sufs l).length : Int) = (sa.length : Int) => e (by omega))]
      (conv => lhs; unfold haystackref17_Check.j0)
      try dsimp only
      rw [if_pos rfl]
  obtain ⟨K2, h2⟩ := hj
  refine ⟨K1 + K2, fun k hk => ?_⟩
  show haystackref17_Check.f k l sa = _
  unfold haystackref17_Check.f
  have e1 : haystackref17_Array.f k l = some (sufs l, 0) := h1 k (by omega)
  rw [e1, Option.bind_some, if_pos rfl]
  exact h2 k (by omega)

end Go.Proofs.Ytclgeomjnpejmaa.PureTells
namespace Go.Proofs.Ytclgeomjnpejmaa.Pure
open Go.RowKit Go.Proofs.Ytclgeomjnpejmaa.PureTells Go.Proofs.Ytclgeomjnpejmaa.PSuffixTells Go.Proofs.YtclgeomjnpejmaaW.PrintWords Go.Proofs.YtclgeomjnpejmaaW.PrintLast Go.Proofs.MathSuf Go.Proofs.MathInv Go.Proofs.Ytclgeomjnpejmaa.Suf

theorem SuffixTells : haystacklaw17_SuffixTells.Pure := by
  intro l a1 a2 sa hm hB hw hw1 hw2 hm3 hB3 hw3
  have hb := bytes_of_wf hw
  have hT : ∀ c, haystacklaw17_SuffixTells.j0 (c + 40 + 1) l a1 a2 sa true = some true := by
    intro c
    unfold haystacklaw17_SuffixTells.j0; try dsimp only
    rw [if_pos rfl, heads_f]
    rfl
  by_cases c1 : (l.length : Int) > 1000
  · refine ⟨0 + 40 + 1, ?_⟩
    unfold haystacklaw17_SuffixTells.f
    rw [if_pos c1]
    exact hT 0
  by_cases c2 : (sa.length : Int) > 2000
  · refine ⟨0 + 40 + 1, ?_⟩
    unfold haystacklaw17_SuffixTells.f
    rw [if_neg c1, decide_eq_true c2]
    exact hT 0
  have hS := sufs_length l
  obtain ⟨K1, h1⟩ := ra_f l hb (by omega)
  obtain ⟨r, hr, K2, h2⟩ := ri_f sa (by omega)
  obtain ⟨K3, h3⟩ := rc_f l sa hb (by omega)
  obtain ⟨k, hk⟩ : ∃ k, k = K1 + K2 + K3 + 20000 := ⟨_, rfl⟩
  refine ⟨k + 1, ?_⟩
  have e1 : haystackref17_Array.f k l = some (sufs l, 0) := h1 k (by omega)
  have e2 : haystackref17_Inverse.f k sa = some r := h2 k (by omega)
  have e3 : haystackref17_Check.f k l sa = some (decide (sufs l = sa)) := h3 k (by omega)
  have e4 : suffix_Inverse.f k sa = some r := by
    obtain ⟨r', hr', hs'⟩ := inv_f sa (by omega) (k - (sa.length + 1) - (sa.length + 1))
    rw [show k - (sa.length + 1) - (sa.length + 1) + (sa.length + 1) + (sa.length + 1) = k by omega] at hr'
    rw [hr', invSpec_unique hs' hr]
  have hrl : r.1.length ≤ 2000 := by
    rcases hr with ⟨_, hi, _⟩ | ⟨_, he⟩
    · rw [hi.1]; omega
    · rw [he]; exact Nat.zero_le _
  have e5 : haystackref07_Numbers.f k (sufs l) (sufs l) = some true := by
    have := num_f (sufs l) (sufs l) (by omega) (k - (sufs l).length - 1)
    rw [show k - (sufs l).length - 1 + (sufs l).length + 1 = k by omega] at this
    rw [this]; simp
  have e6 : haystackref07_Numbers.f k r.1 r.1 = some true := by
    have := num_f r.1 r.1 (by omega) (k - r.1.length - 1)
    rw [show k - r.1.length - 1 + r.1.length + 1 = k by omega] at this
    rw [this]; simp
  have e7 : suffix_Check.f k l sa = some (decide (sufs l = sa)) := by
    unfold suffix_Check.f
    have := eq_f (sufs l) sa (by omega) (k - (sufs l).length - 1)
    rw [show k - (sufs l).length - 1 + (sufs l).length + 1 = k by omega] at this
    rw [arr_f l hb (by omega), Option.bind_some, if_pos rfl, this]
    rfl
  have e8 : haystacklaw17_heads.f k = some true := by
    have := heads_f (k - 40)
    rwa [show k - 40 + 40 = k by omega] at this
  unfold haystacklaw17_SuffixTells.f
  rw [if_neg c1, decide_eq_false c2]
  unfold haystacklaw17_SuffixTells.j0; try dsimp only
  rw [if_neg (by decide), arr_f l hb (by omega), Option.bind_some, e1, Option.bind_some, e4, Option.bind_some, e2, Option.bind_some, e5, Option.bind_some, if_pos rfl, if_pos rfl, e6, Option.bind_some, if_pos rfl, if_pos rfl, less_f l hb, Option.bind_some, rless_f l hb, Option.bind_some, if_pos (by simp), e7, Option.bind_some, e3, Option.bind_some, if_pos (by simp), e8]
  rfl

end Go.Proofs.Ytclgeomjnpejmaa.Pure
