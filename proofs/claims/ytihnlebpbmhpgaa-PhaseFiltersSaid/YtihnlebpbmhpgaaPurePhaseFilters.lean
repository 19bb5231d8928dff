/- PhaseFilters, the plain law. -/
import Derived.Test.YtihnlebpbmhpgaaPPhaseFiltersx1
import Derived.Test.YtihnlebpbmhpgaaYBounds
import Derived.Lib.BytesEntry
namespace Go.Proofs.Ytihnlebpbmhpgaa.PurePhaseFilters
open Go.RowKit Go.Proofs.Ytihnlebpbmhpgaa.PPhaseFilters Go.Proofs.YtihnlebpbmhpgaaW.PrintWords Go.Proofs.YtihnlebpbmhpgaaW.PrintLast Go.Proofs.Ytihnlebpbmhpgaa.Phase
set_option linter.unusedVariables false
set_option linter.unusedSimpArgs false

theorem ofNat_inj {x y : Int} (hx : 0 ≤ x ∧ x < 256) (hy : 0 ≤ y ∧ y < 256) (h : UInt8.ofNat x.toNat = UInt8.ofNat y.toNat) : x = y := by
  have := congrArg UInt8.toNat h
  simp only [UInt8.toNat_ofNat'] at this
  omega
theorem bo_inj : ∀ (a b : List Int), (∀ x ∈ a, 0 ≤ x ∧ x < 256) → (∀ x ∈ b, 0 ≤ x ∧ x < 256) → Lib.bytesOf a = Lib.bytesOf b → a = b
  | [], [], _, _, _ => rfl
  | [], _ :: _, _, _, h => by cases h
  | _ :: _, [], _, _, h => by cases h
  | x :: a, y :: b, ha, hb, h => by
    have h' : UInt8.ofNat x.toNat :: Lib.bytesOf a = UInt8.ofNat y.toNat :: Lib.bytesOf b := h
    injection h' with h1 h2
    rw [ofNat_inj (ha x (List.mem_cons_self ..)) (hb y (List.mem_cons_self ..)) h1, bo_inj a b (fun z hz => ha z (List.mem_cons_of_mem _ hz)) (fun z hz => hb z (List.mem_cons_of_mem _ hz)) h2]
theorem str_iff (a b : List Int) (ha : ∀ x ∈ a, 0 ≤ x ∧ x < 256) (hb : ∀ x ∈ b, 0 ≤ x ∧ x < 256) : (strOfNums a).toList = (strOfNums b).toList ↔ a = b := by
  rw [Lib.strOfNums_toList, Lib.strOfNums_toList]
  exact ⟨bo_inj a b ha hb, fun h => by rw [h]⟩
theorem rd_nat (l : List Int) (i : Nat) : rd l (i : Int) = l.getD i 0 := by simp [rd]
theorem w64_in (x : Int) (h : -9000000000000000000 < x) (h2 : x < 9000000000000000000) : wrap64 x = x := by
  unfold wrap64
  omega
def okB (t p : List Int) (j : Nat) : Bool := decide ((t.drop j).take p.length = p)
def occ (t p : List Int) (m : Nat) : List Int := ((List.range m).filter (okB t p)).map fun j : Nat => (j : Int)
theorem occ_succ (t p : List Int) (m : Nat) : occ t p (m + 1) = if okB t p m = true then occ t p m ++ [(m : Int)] else occ t p m := by
  unfold occ
  rw [List.range_succ, List.filter_append, List.map_append]
  by_cases h : okB t p m = true
  · rw [if_pos h, List.filter_cons_of_pos h]; rfl
  · rw [if_neg h, List.filter_cons_of_neg h]; simp
theorem occ_len (t p : List Int) (m : Nat) : (occ t p m).length ≤ m := by
  unfold occ
  rw [List.length_map]
  exact Nat.le_trans (List.length_filter_le _ _) (by rw [List.length_range]; exact Nat.le_refl _)
theorem occ_l0 (t p : List Int) (hb : ∀ x ∈ t, 0 ≤ x ∧ x < 256) (hp : ∀ x ∈ p, 0 ≤ x ∧ x < 256) (m : Nat) (hm : (m : Int) = max 0 ((t.length : Int) - p.length + 1)) (ht : t.length ≤ 1000) (hpl : p.length ≤ 1000) (c : Nat) : ∀ (d i : Nat), i + d = m → haystackref22_Occ.l0 (c + d + 1) t p (occ t p i) (i : Int) = some (occ t p m)
  | 0, i, h => by
    unfold haystackref22_Occ.l0
    rw [w64_in _ (by omega) (by omega), if_neg (by omega)]
    rw [show i = m by omega]
  | d + 1, i, h => by
    unfold haystackref22_Occ.l0
    have hl := occ_len t p i
    rw [w64_in _ (by omega) (by omega), if_pos (by omega), if_pos (by omega), if_pos (by omega), w64_in _ (by omega) (by omega)]
    have e1 : ((i : Int) + (p.length : Int)).toNat = i + p.length := by omega
    rw [e1, Int.toNat_natCast]
    have e2 : (t.take (i + p.length)).drop i = (t.drop i).take p.length := by
      rw [List.drop_take]
      congr 1
      omega
    rw [e2]
    have e3 : ((strOfNums ((t.drop i).take p.length)).toList = (strOfNums p).toList) = (okB t p i = true) := by
      rw [str_iff _ _ (fun x hx => hb x (List.mem_of_mem_drop (List.mem_of_mem_take hx))) hp]
      unfold okB
      simp
    have ih := occ_l0 t p hb hp m hm ht hpl c d (i + 1) (by omega)
    rw [occ_succ] at ih
    rw [show ((i : Int) + 1) = ((i + 1 : Nat) : Int) by omega]
    by_cases ho : okB t p i = true
    · rw [if_pos (by rw [e3]; exact ho), if_pos (by omega)]
      rw [if_pos ho] at ih
      exact ih
    · rw [if_neg (by rw [e3]; exact ho)]
      rw [if_neg ho] at ih
      exact ih

/-- What is let through: each place. -/
def okF (t p : List Int) (j : Nat) : Bool := decide (c1 t p j p.length = (p.length : Int)) && decide (c2 t p j p.length = 0)
theorem okF_of (t p : List Int) (j : Nat) (hj : j + p.length ≤ t.length) (h : okB t p j = true) : okF t p j = true := by
  unfold okB at h
  have h := of_decide_eq_true h
  have h1 : c1 t p j p.length = (p.length : Int) := (c1_full t p j p.length).2 fun i hi => by
    have e : p.getD i 0 = t.getD (j + i) 0 := by
      conv => lhs; rw [← h]
      rw [List.getD_eq_getElem?_getD, List.getD_eq_getElem?_getD, List.getElem?_take_of_lt hi, List.getElem?_drop]
    rw [e]
  have h2 := c_abs t p j p.length
  unfold okF
  rw [decide_eq_true h1, decide_eq_true (by omega)]
  rfl
theorem okF_get (t p : List Int) (j : Nat) (h : okF t p j = true) (i : Nat) (hi : i < p.length) : t.getD (j + i) 0 % 4 = p.getD i 0 % 4 := by
  unfold okF at h
  rw [Bool.and_eq_true] at h
  exact (c1_full t p j p.length).1 (of_decide_eq_true h.1) i hi
theorem flt_def (t p : List Int) (m : Nat) : flt t p m = ((List.range m).filter (okF t p)).map fun j : Nat => (j : Int) := rfl
def isO (t p : List Int) (x : Int) : Bool := okB t p x.toNat
theorem occ_flt (t p : List Int) (m : Nat) (hm : 0 < m → m + p.length = t.length + 1) : occ t p m = (flt t p m).filter (isO t p) := by
  rw [flt_def, List.filter_map, List.filter_filter]
  unfold occ
  congr 1
  refine List.filter_congr fun j hj => ?_
  have hj := List.mem_range.1 hj
  simp only [Function.comp, isO, Int.toNat_natCast]
  by_cases h : okB t p j = true
  · rw [h, okF_of t p j (by have := hm (by omega); omega) h]; rfl
  · rw [Bool.eq_false_iff.2 h]; rfl
theorem flt_mem (t p : List Int) (m : Nat) (x : Int) (h : x ∈ flt t p m) : ∃ j : Nat, x = (j : Int) ∧ j < m ∧ okF t p j = true := by
  rw [flt_def] at h
  obtain ⟨j, hj, rfl⟩ := List.mem_map.1 h
  obtain ⟨h1, h2⟩ := List.mem_filter.1 hj
  exact ⟨j, rfl, List.mem_range.1 h1, h2⟩
theorem flt_lt (t p : List Int) (m : Nat) : (flt t p m).Pairwise (· < ·) := by
  rw [flt_def, List.pairwise_map]
  have h : (List.range m).Pairwise (· < ·) := List.pairwise_lt_range
  exact (h.filter _).imp fun hab => by omega

theorem l1_ok (t p L O : List Int) (x7 i : Nat) (ht : t.length ≤ 1000) (hb : ∀ x ∈ t, 0 ≤ x ∧ x < 256) (hp : ∀ x ∈ p, 0 ≤ x ∧ x < 256) (hpl : p.length ≤ 1000) (hi : i < L.length) (j0 : Nat) (hL : rd L (i : Int) = (j0 : Int)) (hj0 : j0 + p.length ≤ t.length) (hag : ∀ k, k < p.length → t.getD (j0 + k) 0 % 4 = p.getD k 0 % 4)
    (hLl : L.length ≤ 2000) (hOl : O.length ≤ 2000) (h7 : x7 ≤ O.length) (n : Nat) (hO : ∀ c, haystacklaw23_PhaseFilters.l0 (c + n) t p L O (if x7 < O.length ∧ rd O (x7 : Int) = (j0 : Int) then ((x7 + 1 : Nat) : Int) else (x7 : Int)) ((i + 1 : Nat) : Int) = some true) (c : Nat) : ∀ (d k : Nat), k + d = p.length → haystacklaw23_PhaseFilters.l1 (c + n + d + 1) t p L O (x7 : Int) (i : Int) (k : Int) = some true
  | 0, k, h => by
    unfold haystacklaw23_PhaseFilters.l1
    rw [if_neg (by omega), w64_in _ (by omega) (by omega), w64_in _ (by omega) (by omega)]
    have hO' := hO c
    by_cases h1 : x7 < O.length
    · rw [if_pos (by omega), if_pos (by omega), if_pos (by omega), if_pos (by omega), hL]
      by_cases h2 : rd O (x7 : Int) = (j0 : Int)
      · rw [if_pos ⟨h1, h2⟩] at hO'
        rw [if_pos h2]
        exact hO'
      · rw [if_neg (fun h => h2 h.2)] at hO'
        rw [if_neg h2]
        exact hO'
    · rw [if_neg (by omega)]
      rw [if_neg (fun h => h1 h.1)] at hO'
      exact hO'
  | d + 1, k, h => by
    unfold haystacklaw23_PhaseFilters.l1
    rw [if_pos (by omega), if_pos (by omega), if_pos (by omega), hL, w64_in _ (by omega) (by omega), if_pos (by omega), if_pos (by omega), if_pos (by omega), w64_in _ (by omega) (by omega)]
    have hk : k < p.length := by omega
    have e := hag k hk
    have e1 : rd t ((j0 : Int) + (k : Int)) = t.getD (j0 + k) 0 := by
      rw [show (j0 : Int) + (k : Int) = ((j0 + k : Nat) : Int) by omega, rd_nat]
    have e2 : rd p (k : Int) = p.getD k 0 := by simp [rd]
    have r1 : 0 ≤ t.getD (j0 + k) 0 := by rw [List.getD_eq_getElem?_getD, List.getElem?_eq_getElem (by omega : j0 + k < t.length)]; exact (hb _ (List.getElem_mem _)).1
    have r2 : 0 ≤ p.getD k 0 := by rw [List.getD_eq_getElem?_getD, List.getElem?_eq_getElem hk]; exact (hp _ (List.getElem_mem _)).1
    rw [e1, e2, if_pos (by rw [Int.tmod_eq_emod_of_nonneg r1, Int.tmod_eq_emod_of_nonneg r2]; exact e)]
    have ih := l1_ok t p L O x7 i ht hb hp hpl hi j0 hL hj0 hag hLl hOl h7 n hO c d (k + 1) (by omega)
    exact ih
theorem l0_ok (t p L O : List Int) (m : Nat) (ht : t.length ≤ 1000) (hb : ∀ x ∈ t, 0 ≤ x ∧ x < 256) (hp : ∀ x ∈ p, 0 ≤ x ∧ x < 256) (hpl : p.length ≤ 1000) (hm : 0 < m → m + p.length = t.length + 1) (hm2 : m ≤ 1001) (hLe : L = flt t p m) (hOe : O = L.filter (isO t p)) : ∀ (d i : Nat), i + d = L.length → ∃ n, ∀ c, haystacklaw23_PhaseFilters.l0 (c + n) t p L O ((((L.take i).filter (isO t p)).length : Nat) : Int) (i : Int) = some true
  | 0, i, h => by
    refine ⟨1, fun c => ?_⟩
    unfold haystacklaw23_PhaseFilters.l0
    rw [if_neg (by omega), List.take_of_length_le (by omega), ← hOe, if_pos rfl]
    rfl
  | d + 1, i, h => by
    have hi : i < L.length := by omega
    obtain ⟨n, hn⟩ := l0_ok t p L O m ht hb hp hpl hm hm2 hLe hOe d (i + 1) (by omega)
    have hLl : L.length ≤ 1001 := by
      rw [hLe, flt_def, List.length_map]
      exact Nat.le_trans (List.length_filter_le _ _) (by rw [List.length_range]; exact hm2)
    have hOl : O.length ≤ L.length := by rw [hOe]; exact List.length_filter_le _ _
    obtain ⟨j0, hx, hj, hF⟩ := flt_mem t p m L[i] (by rw [← hLe]; exact List.getElem_mem hi)
    have hLi : rd L (i : Int) = (j0 : Int) := by rw [rd_nat, List.getD_eq_getElem?_getD, List.getElem?_eq_getElem hi]; exact hx
    have hjp : j0 + p.length ≤ t.length := by have := hm (by omega); omega
    have hsplit : L = L.take i ++ L[i] :: L.drop (i + 1) := by
      rw [← List.drop_eq_getElem_cons hi, List.take_append_drop]
    have hOs : O = (L.take i).filter (isO t p) ++ (L[i] :: L.drop (i + 1)).filter (isO t p) := by
      rw [hOe, ← List.filter_append, ← hsplit]
    have htk : L.take (i + 1) = L.take i ++ [L[i]] := by rw [List.take_add_one, List.getElem?_eq_getElem hi]; rfl
    obtain ⟨x7, h7⟩ : ∃ x7, x7 = ((L.take i).filter (isO t p)).length := ⟨_, rfl⟩
    have h7O : x7 ≤ O.length := by rw [hOs, List.length_append, ← h7]; omega
    have hstep : (if x7 < O.length ∧ rd O (x7 : Int) = (j0 : Int) then ((x7 + 1 : Nat) : Int) else (x7 : Int)) = ((((L.take (i + 1)).filter (isO t p)).length : Nat) : Int) := by
      rw [htk, List.filter_append, List.length_append, ← h7]
      have hrd : rd O (x7 : Int) = ((L[i] :: L.drop (i + 1)).filter (isO t p)).getD 0 0 := by
        rw [rd_nat, List.getD_eq_getElem?_getD, hOs, List.getElem?_append_right (by omega), ← h7, Nat.sub_self, List.getD_eq_getElem?_getD]
      have hlen : O.length = x7 + ((L[i] :: L.drop (i + 1)).filter (isO t p)).length := by rw [hOs, List.length_append, ← h7]
      by_cases ho : isO t p L[i] = true
      · rw [List.filter_cons_of_pos ho] at hrd hlen
        rw [if_pos ⟨by rw [hlen, List.length_cons]; omega, by rw [hrd]; exact hx⟩, List.filter_cons_of_pos ho]
        rfl
      · rw [List.filter_cons_of_neg ho] at hrd hlen
        rw [List.filter_cons_of_neg ho, if_neg]
        · simp
        · rintro ⟨h1, h2⟩
          have h0 : 0 < ((L.drop (i + 1)).filter (isO t p)).length := by omega
          rw [hrd, List.getD_eq_getElem?_getD, List.getElem?_eq_getElem h0] at h2
          have hmem := List.getElem_mem h0
          have := (List.mem_filter.1 hmem).2
          have h2' : ((L.drop (i + 1)).filter (isO t p))[0] = L[i] := by rw [hx]; exact h2
          rw [h2'] at this
          exact ho this
    refine ⟨n + p.length + 1 + 1 + 1, fun c => ?_⟩
    have hl1 := l1_ok t p L O x7 i ht hb hp hpl hi j0 hLi hjp (fun k hk => okF_get t p j0 hF k hk) (by omega) (by omega) h7O n (fun c => by rw [hstep]; exact hn c) c p.length 0 (by omega)
    rw [← h7]
    rw [show c + (n + p.length + 1 + 1 + 1) = (c + n + p.length + 1 + 1) + 1 by omega]
    have hj2 : haystacklaw23_PhaseFilters.j2 (c + n + p.length + 1 + 1) t p L O (x7 : Int) (i : Int) false = some true := by
      unfold haystacklaw23_PhaseFilters.j2
      rw [if_neg (by decide)]
      exact hl1
    unfold haystacklaw23_PhaseFilters.l0
    rw [if_pos (by omega), if_pos (by omega), hLi, if_neg (by omega), w64_in ((t.length : Int) - p.length) (by omega) (by omega), if_neg (by omega)]
    by_cases h0 : (i : Int) > 0
    · rw [if_pos h0, w64_in _ (by omega) (by omega), if_pos (by omega), if_pos (by omega)]
      have hlt : rd L ((i : Int) - 1) < (j0 : Int) := by
        have hp := List.pairwise_iff_getElem.1 (by rw [hLe]; exact flt_lt t p m : L.Pairwise (· < ·)) (i - 1) i (by omega) hi (by omega)
        rw [show (i : Int) - 1 = ((i - 1 : Nat) : Int) by omega, rd_nat, List.getD_eq_getElem?_getD, List.getElem?_eq_getElem (by omega : i - 1 < L.length)]
        rw [hx] at hp
        exact hp
      rw [decide_eq_false (by omega)]
      exact hj2
    · rw [if_neg h0]
      exact hj2
end Go.Proofs.Ytihnlebpbmhpgaa.PurePhaseFilters
namespace Go.Proofs.Ytihnlebpbmhpgaa.Pure
open Go.RowKit Go.Proofs.Ytihnlebpbmhpgaa.PPhaseFilters Go.Proofs.YtihnlebpbmhpgaaW.PrintWords Go.Proofs.YtihnlebpbmhpgaaW.PrintLast Go.Proofs.Ytihnlebpbmhpgaa.Phase Go.Proofs.Ytihnlebpbmhpgaa.PurePhaseFilters
theorem PhaseFilters : haystacklaw23_PhaseFilters.Pure := by
  intro t p h1 h2 h3 h4 h5 h6
  have hb : ∀ l : List Int, (∀ x ∈ l, (Lit.int .u8 x).wf = true) → ∀ x ∈ l, 0 ≤ x ∧ x < 256 := by
    intro l h x hx
    have := h x hx
    simp [Lit.wf, IntKind.min, IntKind.max, IntKind.bits, IntKind.signed] at this
    omega
  have hbt := hb t h3
  have hbp := hb p h6
  by_cases ht : t.length ≤ 1000
  · by_cases hp : p.length ≤ 1000
    · obtain ⟨m, hm⟩ : ∃ m, m = (max 0 ((t.length : Int) - p.length + 1)).toNat := ⟨_, rfl⟩
      have hm' : (m : Int) = max 0 ((t.length : Int) - p.length + 1) := by omega
      have hocc : ∀ c, haystackref22_Occ.f (c + m + 1) t p = some (occ t p m) := fun c => occ_l0 t p hbt hbp m hm' ht hp c m 0 (by omega)
      obtain ⟨n, hn⟩ := l0_ok t p (flt t p m) (occ t p m) m ht hbt hbp hp (by omega) (by omega) rfl (occ_flt t p m (by omega)) (flt t p m).length 0 (by omega)
      have hf : phase_Filter.f t p = some (flt t p m) := by
        unfold phase_Filter.f
        rw [if_pos, if_pos ⟨ht, hp⟩, hm]
        simp only [Bool.and_eq_true, List.all_eq_true, decide_eq_true_eq]
        exact ⟨hbt, hbp⟩
      refine ⟨n + m + 1 + 1, ?_⟩
      unfold haystacklaw23_PhaseFilters.f
      rw [if_neg (by omega), decide_eq_false (by omega)]
      unfold haystacklaw23_PhaseFilters.j0
      dsimp only
      rw [if_neg (by decide), hf, Option.bind_some, hocc n, Option.bind_some]
      have := hn (m + 1)
      rw [show m + 1 + n = n + m + 1 by omega] at this
      exact this
    · refine ⟨1, ?_⟩
      unfold haystacklaw23_PhaseFilters.f
      rw [if_neg (by omega), decide_eq_true (by omega)]
      rfl
  · refine ⟨1, ?_⟩
    unfold haystacklaw23_PhaseFilters.f
    rw [if_pos (by omega)]
    rfl
end Go.Proofs.Ytihnlebpbmhpgaa.Pure
