/- BwtRow: Row is where the whole text stands in the order of ends: for every text of at most 600 bytes. -/
import Derived.Test.YtalhipjgafjmoaaPBwtRowx4
import Derived.Test.YtalhipjgafjmoaaMathBwt
import Derived.Lib.BytesEntry
namespace Go.Proofs.Ytalhipjgafjmoaa.PureBwtRow
open Go.RowKit Go.Proofs.Ytalhipjgafjmoaa.PBwtRow Go.Proofs.YtalhipjgafjmoaaW.PrintWords Go.Proofs.YtalhipjgafjmoaaW.PrintLast Go.Proofs.MathSuf Go.Proofs.Ytalhipjgafjmoaa.Bwt
set_option linter.unusedVariables false
set_option linter.unusedSimpArgs false
theorem evk {α : Type} {r : α} {f : Nat → Option α} (K : Nat) (e : ∀ k, K ≤ k → f k = some r) : Ev f r := ⟨K, e⟩
theorem evc {α : Type} {r : α} {f : Nat → Option α} (e : ∀ k, f k = some r) : Ev f r := ⟨0, fun k _ => e k⟩
theorem evs {α : Type} {f g : Nat → Option α} {r : α} (h : Ev g r) (e : ∀ k, f (k + 1) = g k) : Ev f r := Ev.step e h
theorem evg {α : Type} {f g : Nat → Option α} {r : α} (h : Ev g r) (e : ∀ k, f k = g k) : Ev f r := Ev.congr e h
theorem ev1 {α : Type} {f : Nat → Option α} {r : α} (e : ∀ k, f (k + 1) = some r) : Ev f r := Ev.step e (Ev.now r)
theorem rdn (l : List Int) (i : Nat) : rd l (i : Int) = l.getD i 0 := by simp [rd]
theorem w64 (i : Nat) (h : i < 9000000000000000000) : wrap64 ((i : Int) + 1) = ((i + 1 : Nat) : Int) := by
  unfold wrap64
  omega
theorem w64i (x : Int) (h : -9000000000000000000 < x) (h2 : x < 9000000000000000000) : wrap64 x = x := by
  unfold wrap64
  omega
theorem bytes_of_wf {l : List Int} (hw : ∀ x ∈ l, (Lit.int .u8 x).wf = true) : ∀ x ∈ l, 0 ≤ x ∧ x < 256 := by
  intro x hx
  have h := hw x hx
  simp [Lit.wf, IntKind.min, IntKind.max, IntKind.signed, IntKind.bits] at h
  omega
theorem make_ev (l : List Int) (hb : ∀ x ∈ l, 0 ≤ x ∧ x < 256) (hn : l.length ≤ 8192) : Ev (fun k => bwt_Make.f k l) (mkLast l, mkRow l, fstTo l 256, 0) :=
  Ev.of (bwt_Make.mono l) (make_f l hb hn 0)
theorem last_bytes {l : List Int} (hb : ∀ x ∈ l, 0 ≤ x ∧ x < 256) : ∀ x ∈ mkLast l, 0 ≤ x ∧ x < 256 := fun x hx => hb x ((mkLast_perm l).mem_iff.1 hx)
theorem back_f {last : List Int} (hb : ∀ x ∈ last, 0 ≤ x ∧ x < 256) (row : Int) (C : List Int) : bwt_Back.f last row C = some (backS last row C) := by
  unfold bwt_Back.f
  rw [if_pos (all_bytes hb)]
theorem back_make (l : List Int) (hb : ∀ x ∈ l, 0 ≤ x ∧ x < 256) (hn : l.length ≤ 8192) : bwt_Back.f (mkLast l) (mkRow l) (fstTo l 256) = some (l, 0) := by
  rw [back_f (last_bytes hb), backS_make l (fun x hx => (hb x hx).1) hn]
theorem check_make (l : List Int) (hb : ∀ x ∈ l, 0 ≤ x ∧ x < 256) (hn : l.length ≤ 8192) : bwt_Check.f (mkLast l) (mkRow l) (fstTo l 256) = some true := by
  unfold bwt_Check.f
  rw [back_make l hb hn]
  rfl
theorem row_in (l : List Int) : 0 ≤ mkRow l ∧ mkRow l ≤ l.length := by
  rw [mkRow_R]
  have := R_le l 0 (Nat.zero_le _)
  omega
theorem step_ev (l : List Int) (hb : ∀ x ∈ l, 0 ≤ x ∧ x < 256) (hn : l.length ≤ 8192) (i : Nat) (hi : i ≤ l.length) : Ev (fun k => bwt_Step.f k (mkLast l) (mkRow l) (fstTo l 256) (i : Int)) (stepAt (mkLast l) (R l 0) i, 0) := by
  have hml := mkLast_length l
  have hs := fun c => steps_f (mkLast l) (fstTo l 256) (mkRow l) (row_in l).1 (by rw [hml]; exact (row_in l).2) (last_bytes hb) (by omega) c
  have hst : Ev (fun k => bwt_steps.f k (mkLast l) (mkRow l) (fstTo l 256)) (stepsS (mkLast l) (mkRow l).toNat) := Ev.of (bwt_steps.mono _ _ _) (hs 0)
  obtain ⟨K, hK⟩ := hst
  dsimp only at hK
  refine ⟨K, fun k hk => ?_⟩
  show bwt_Step.f k _ _ _ _ = _
  unfold bwt_Step.f
  rw [check_make l hb hn, Option.bind_some, if_pos rfl, if_neg (by omega), if_neg (by rw [hml]; omega), hK k hk, Option.bind_some, if_pos (by omega), if_pos (by rw [stepsS_length, hml]; omega), rdn, stepsS_get _ _ _ (by rw [hml]; omega), mkRow_R, Int.toNat_natCast]
theorem step_out (l : List Int) (hb : ∀ x ∈ l, 0 ≤ x ∧ x < 256) (hn : l.length ≤ 8192) (i : Int) (hi : (l.length : Int) < i) (k : Nat) : bwt_Step.f k (mkLast l) (mkRow l) (fstTo l 256) i = some (0, 3) := by
  unfold bwt_Step.f
  rw [check_make l hb hn, Option.bind_some, if_pos rfl, if_neg (by omega), if_pos (by rw [mkLast_length]; omega)]
theorem runs_make (l : List Int) (hb : ∀ x ∈ l, 0 ≤ x ∧ x < 256) (hn : l.length ≤ 8192) : bwt_Runs.f (mkLast l) (mkRow l) (fstTo l 256) = some (runsN (mkLast l)) := by
  unfold bwt_Runs.f
  rw [check_make l hb hn, Option.bind_some, if_pos rfl, if_pos (by rw [mkLast_length]; omega)]

/-! heads -/
def ban : List Int := [98, 97, 110, 97, 110, 97]
theorem sufs_ban : sufs ban = [6, 5, 3, 1, 0, 4, 2] := by
  have h : IsSuf ban [6, 5, 3, 1, 0, 4, 2] := ⟨by decide, by decide⟩
  exact sufs_of h
theorem last_ban : mkLast ban = [97, 110, 110, 98, 97, 97] := by
  unfold mkLast
  rw [sufs_ban]
  decide +kernel
theorem row_ban : mkRow ban = 4 := by
  unfold mkRow
  rw [sufs_ban]
  decide +kernel
theorem ban_bytes : ∀ x ∈ ban, 0 ≤ x ∧ x < 256 := by decide
theorem back_nil : bwt_Back.f [] 0 [] = some ([], 161) := by
  rw [back_f (by intro x hx; cases hx)]
  have h : (backS [] 0 []).2 ≠ 0 := by
    intro h
    have h1 := (backS_ok h).2.2.2.2.2.1
    have h2 := congrArg List.length h1
    rw [fstTo_length] at h2
    cases h2
  rw [backS_bad h]
theorem heads_ev : Ev (fun k => haystacklaw18_heads.f k) true := by
  unfold haystacklaw18_heads.f
  refine Ev.bind (make_ev ban ban_bytes (by decide)) ?_
  dsimp only
  rw [back_make ban ban_bytes (by decide)]
  refine Ev.bind (evc fun _ => rfl) ?_
  refine Ev.bind (step_ev ban ban_bytes (by decide) 0 (Nat.zero_le _)) ?_
  refine Ev.bind (evc fun k => step_out ban ban_bytes (by decide) 7 (by decide) k) ?_
  refine Ev.bind (evc fun k => back_nil) ?_
  refine evc fun k => ?_
  have hl := fstTo_length ban 256
  have h98 : rd (fstTo ban 256) 98 = 4 := by
    rw [show (98 : Int) = ((98 : Nat) : Int) from rfl, rdn, fstTo_get ban 256 98 (by decide)]
    decide +kernel
  have hst : stepAt (mkLast ban) (R ban 0) 0 = 1 := by
    have hR : (R ban 0 : Int) = 4 := by rw [← mkRow_R, row_ban]
    have hR' : R ban 0 = 4 := by omega
    rw [hR', last_ban]
    decide +kernel
  dsimp only
  rw [if_pos rfl, check_make ban ban_bytes (by decide), runs_make ban ban_bytes (by decide), hst, last_ban, row_ban]
  rw [if_pos (by decide +kernel), if_pos rfl, if_pos (by rw [hl]; rfl), if_pos (by rw [hl]; decide), if_pos h98, if_pos rfl, if_pos (by decide +kernel), if_pos rfl, if_pos rfl, if_pos rfl, if_pos rfl, Option.bind_some, if_pos rfl, Option.bind_some]
  decide +kernel

theorem ofNat_lt (x y : Int) (hx : 0 ≤ x ∧ x < 256) (hy : 0 ≤ y ∧ y < 256) : (UInt8.ofNat x.toNat < UInt8.ofNat y.toNat) ↔ x < y := by
  rw [UInt8.lt_iff_toNat_lt]
  simp only [UInt8.toNat_ofNat']
  omega

-- strings of bytes
theorem bl_eq : ∀ (a b : List Int), (∀ x ∈ a, 0 ≤ x ∧ x < 256) → (∀ x ∈ b, 0 ≤ x ∧ x < 256) → Op.bytesLess (Lib.bytesOf a) (Lib.bytesOf b) = lexlt a b
  | [], [], _, _ => rfl
  | [], _ :: _, _, _ => rfl
  | _ :: _, [], _, _ => rfl
  | x :: a, y :: b, ha, hb => by
    have hx := ha x (List.mem_cons_self ..)
    have hy := hb y (List.mem_cons_self ..)
    have h1 := ofNat_lt x y hx hy
    have h2 : (UInt8.ofNat x.toNat == UInt8.ofNat y.toNat) = decide (x = y) := by
      rw [Bool.eq_iff_iff, decide_eq_true_eq, beq_iff_eq]
      constructor
      · intro h
        have := congrArg UInt8.toNat h
        simp only [UInt8.toNat_ofNat'] at this
        omega
      · intro h; rw [h]
    have ih := bl_eq a b (fun z hz => ha z (List.mem_cons_of_mem _ hz)) (fun z hz => hb z (List.mem_cons_of_mem _ hz))
    show (decide (UInt8.ofNat x.toNat < UInt8.ofNat y.toNat) || (UInt8.ofNat x.toNat == UInt8.ofNat y.toNat && Op.bytesLess (Lib.bytesOf a) (Lib.bytesOf b))) = (decide (x < y) || (decide (x = y) && lexlt a b))
    rw [ih, h2]
    congr 1
    rw [Bool.eq_iff_iff, decide_eq_true_eq, decide_eq_true_eq]
    exact h1
theorem bl_str (l : List Int) (hb : ∀ x ∈ l, 0 ≤ x ∧ x < 256) (i j : Nat) : Op.bytesLess (strOfNums (l.drop i)).toList (strOfNums (l.drop j)).toList = lexlt (l.drop i) (l.drop j) := by
  rw [Lib.strOfNums_toList, Lib.strOfNums_toList]
  exact bl_eq _ _ (fun x hx => hb x (List.mem_of_mem_drop hx)) (fun x hx => hb x (List.mem_of_mem_drop hx))

-- the document's Less
theorem rless_f (l : List Int) (hb : ∀ x ∈ l, 0 ≤ x ∧ x < 256) (i j : Int) : haystackref17_Less.f l i j = some (decide (0 ≤ i ∧ 0 ≤ j ∧ i ≤ l.length ∧ j ≤ l.length) && lexlt (l.drop i.toNat) (l.drop j.toNat)) := by
  unfold haystackref17_Less.f
  by_cases h1 : i < 0
  · rw [if_pos h1, decide_eq_false (by omega)]; rfl
  rw [if_neg h1]
  by_cases h2 : j < 0
  · rw [if_pos h2, decide_eq_false (by omega)]; rfl
  rw [if_neg h2]
  by_cases h3 : i > (l.length : Int)
  · rw [if_pos h3, decide_eq_false (by omega)]; rfl
  rw [if_neg h3]
  by_cases h4 : j > (l.length : Int)
  · rw [if_pos h4, decide_eq_false (by omega)]; rfl
  rw [if_neg h4, if_pos (by omega), if_pos (by omega), if_pos (by omega), if_pos (by omega), bl_str l hb, decide_eq_true (by omega), Bool.true_and]

-- the document's Array: a row with one more in its place
theorem ra_l2 (x : List Int) (i : Nat) (out : List Int) (low : Nat) (r : List Int × Int) (hlow : low ≤ out.length) (hb : out.length < 9000000000000000000)
    (hfin : Ev (fun k => haystackref17_Array.l0 k x (out.take low ++ (i : Int) :: out.drop low) (wrap64 ((i : Int) - 1))) r) :
    ∀ (m k : Nat) (y : List Int), low + m = k → k ≤ out.length → y.length = out.length + 1 → (∀ q, q < k → y.getD q 0 = out.getD q 0) → (∀ q, k < q → q ≤ out.length → y.getD q 0 = out.getD (q - 1) 0) →
      Ev (fun f => haystackref17_Array.l2 f x y (i : Int) (low : Int) (k : Int)) r
  | 0, k, y, hk, hkl, hy, h1, h2 => by
    refine evs hfin fun f => ?_
    have e : y.set low (i : Int) = out.take low ++ (i : Int) :: out.drop low := by
      apply List.ext_getElem (by simp [hy]; omega)
      intro q hq1 hq2
      rw [List.length_set] at hq1
      rw [List.getElem_set, List.getElem_append]
      by_cases hql : q < low
      · have := h1 q (by omega)
        rw [List.getD_eq_getElem?_getD, List.getD_eq_getElem?_getD, List.getElem?_eq_getElem hq1, List.getElem?_eq_getElem (by omega : q < out.length)] at this
        rw [if_neg (by omega), dif_pos (by rw [List.length_take]; omega), List.getElem_take]
        exact this
      · rw [dif_neg (by rw [List.length_take]; omega)]
        by_cases e : low = q
        · subst e
          simp [hlow, Nat.min_eq_left]
        · have := h2 q (by omega) (by omega)
          rw [List.getD_eq_getElem?_getD, List.getD_eq_getElem?_getD, List.getElem?_eq_getElem hq1, List.getElem?_eq_getElem (by omega : q - 1 < out.length)] at this
          rw [if_neg e, List.getElem_cons, dif_neg (by rw [List.length_take]; omega), List.getElem_drop]
          have e3 : low + (q - (out.take low).length - 1) = q - 1 := by rw [List.length_take]; omega
          simp only [e3]
          exact this
    show haystackref17_Array.l2 (f + 1) x y (i : Int) (low : Int) (k : Int) = _
    (conv => lhs; unfold haystackref17_Array.l2)
    try dsimp only
    rw [if_neg (by omega), if_pos (by omega), if_pos (by omega), Int.toNat_natCast, e]
  | m + 1, k, y, hk, hkl, hy, h1, h2 => by
    refine evs (ra_l2 x i out low r hlow hb hfin m (k - 1) (y.set k (y.getD (k - 1) 0)) (by omega) (by omega) (by simp [hy]) (fun q hq => ?_) (fun q hq hql => ?_)) fun f => ?_
    · rw [List.getD_eq_getElem?_getD, List.getElem?_set, if_neg (by omega), ← List.getD_eq_getElem?_getD]
      exact h1 q (by omega)
    · rw [List.getD_eq_getElem?_getD, List.getElem?_set]
      by_cases e : k = q
      · subst e
        rw [if_pos rfl, if_pos (by omega)]
        exact h1 (k - 1) (by omega)
      · rw [if_neg e, ← List.getD_eq_getElem?_getD]
        exact h2 q (by omega) hql
    · show haystackref17_Array.l2 (f + 1) x y (i : Int) (low : Int) (k : Int) = _
      have e1 : wrap64 ((k : Int) - 1) = ((k - 1 : Nat) : Int) := by unfold wrap64; omega
      (conv => lhs; unfold haystackref17_Array.l2)
      try dsimp only
      rw [if_pos (by omega), e1, if_pos (by omega), if_pos (by omega), if_pos (by omega), if_pos (by omega), rdn, Int.toNat_natCast]

theorem ra_l1 (x : List Int) (hb : ∀ z ∈ x, 0 ≤ z ∧ z < 256) (hx : x.length ≤ 8192) (i : Nat) (hi : i < x.length) (s : List Nat) (hs : ∀ z ∈ s, z ≤ x.length) (hsl : s.length ≤ 8193) (r : List Int × Int)
    (hsort : s.Pairwise fun a b => lexlt (x.drop a) (x.drop b) = true)
    (hfin : ∀ low, low ≤ s.length → (∀ q (h : q < s.length), q < low → lexlt (x.drop s[q]) (x.drop i) = true) → (∀ q (h : q < s.length), low ≤ q → ¬ lexlt (x.drop s[q]) (x.drop i) = true) →
      Ev (fun k => haystackref17_Array.l0 k x ((s.map fun z : Nat => (z : Int)).take low ++ (i : Int) :: (s.map fun z : Nat => (z : Int)).drop low) (wrap64 ((i : Int) - 1))) r) :
    ∀ (m low high : Nat), low + m = high → high ≤ s.length → (∀ q (h : q < s.length), q < low → lexlt (x.drop s[q]) (x.drop i) = true) → (∀ q (h : q < s.length), high ≤ q → ¬ lexlt (x.drop s[q]) (x.drop i) = true) →
      Ev (fun f => haystackref17_Array.l1 f x (s.map fun z : Nat => (z : Int)) (i : Int) (low : Int) (high : Int)) r := by
  intro m
  induction m using Nat.strongRecOn with
  | _ m ih =>
    intro low high hm hh h1 h2
    by_cases hlt : low < high
    · obtain ⟨mid, hmid⟩ : ∃ mid, mid = (low + high) / 2 := ⟨_, rfl⟩
      have hml : mid < s.length := by omega
      have e1 : wrap64 (Int.tdiv (wrap64 ((low : Int) + (high : Int))) 2) = (mid : Int) := by
        have e2 : wrap64 ((low : Int) + (high : Int)) = ((low + high : Nat) : Int) := by unfold wrap64; omega
        rw [e2, Int.tdiv_eq_ediv_of_nonneg (by omega)]
        unfold wrap64
        omega
      have e3 : rd (s.map fun z : Nat => (z : Int)) (mid : Int) = (s[mid] : Int) := by
        rw [rdn, List.getD_eq_getElem?_getD, List.getElem?_map, List.getElem?_eq_getElem hml]
        rfl
      have hsm := hs s[mid] (List.getElem_mem hml)
      have e4 : haystackref17_Less.f x (s[mid] : Int) (i : Int) = some (lexlt (x.drop s[mid]) (x.drop i)) := by
        rw [rless_f x hb, decide_eq_true (by omega), Bool.true_and, Int.toNat_natCast, Int.toNat_natCast]
      by_cases hl : lexlt (x.drop s[mid]) (x.drop i) = true
      · refine evs (ih (high - (mid + 1)) (by omega) (mid + 1) high (by omega) hh (fun q h hq => ?_) h2) fun f => ?_
        · by_cases e : q = mid
          · subst e; exact hl
          · exact lexlt_trans (List.pairwise_iff_getElem.1 hsort q mid h hml (by omega)) hl
        · show haystackref17_Array.l1 (f + 1) x _ (i : Int) (low : Int) (high : Int) = _
          (conv => lhs; unfold haystackref17_Array.l1)
          try dsimp only
          rw [if_pos (by omega), e1, if_pos (by omega), if_pos (by rw [List.length_map]; omega), e3, e4, Option.bind_some, if_pos hl, w64 mid (by omega)]
      · refine evs (ih (mid - low) (by omega) low mid (by omega) (by omega) h1 (fun q h hq => ?_)) fun f => ?_
        · by_cases e : q = mid
          · subst e; exact hl
          · intro hq'
            exact hl (lexlt_trans (List.pairwise_iff_getElem.1 hsort mid q hml h (by omega)) hq')
        · show haystackref17_Array.l1 (f + 1) x _ (i : Int) (low : Int) (high : Int) = _
          (conv => lhs; unfold haystackref17_Array.l1)
          try dsimp only
          rw [if_pos (by omega), e1, if_pos (by omega), if_pos (by rw [List.length_map]; omega), e3, e4, Option.bind_some, if_neg hl]
    · have hlh : high = low := by omega
      subst hlh
      have hlen : (s.map fun z : Nat => (z : Int)).length = s.length := List.length_map ..
      have hz := ra_l2 x i (s.map fun z : Nat => (z : Int)) high r (by omega) (by omega) (hfin high hh h1 h2) (s.length - high) s.length ((s.map fun z : Nat => (z : Int)) ++ [0]) (by omega) (by omega) (by simp) (fun q hq => ?_) (fun q hq hq2 => by omega)
      · refine evs hz fun f => ?_
        show haystackref17_Array.l1 (f + 1) x _ (i : Int) (high : Int) (high : Int) = _
        (conv => lhs; unfold haystackref17_Array.l1)
        try dsimp only
        have e5 : wrap64 ((((s.map fun z : Nat => (z : Int)) ++ [0]).length : Int) - 1) = ((s.length : Nat) : Int) := by
          rw [List.length_append, hlen]
          unfold wrap64
          simp only [List.length_cons, List.length_nil]
          omega
        rw [if_neg (by omega), if_pos (by omega), Option.bind_some, e5]
      · rw [List.getD_eq_getElem?_getD, List.getElem?_append_left (by omega), ← List.getD_eq_getElem?_getD]

theorem ra_l0 (x : List Int) (hb : ∀ z ∈ x, 0 ≤ z ∧ z < 256) (hx : x.length ≤ 8192) : ∀ (j : Nat) (s : List Nat), j ≤ x.length → s.Perm (List.range' j (x.length + 1 - j)) → (s.Pairwise fun a b => lexlt (x.drop a) (x.drop b) = true) →
    Ev (fun k => haystackref17_Array.l0 k x (s.map fun z : Nat => (z : Int)) ((j : Int) - 1)) (sufs x, 0)
  | 0, s, hj, hp, hs => by
    have hI : IsSuf x s := ⟨by rw [List.range_eq_range']; exact hp, hs⟩
    refine ev1 fun k => ?_
    show haystackref17_Array.l0 (k + 1) x _ (((0 : Nat) : Int) - 1) = _
    (conv => lhs; unfold haystackref17_Array.l0)
    try dsimp only
    rw [if_neg (by omega), sufs_of hI]
  | i + 1, s, hj, hp, hs => by
    have hlen := hp.length_eq
    rw [List.length_range'] at hlen
    have hmem : ∀ z ∈ s, i + 1 ≤ z ∧ z ≤ x.length := by
      intro z hz
      have := List.mem_range'_1.1 (hp.mem_iff.1 hz)
      omega
    have hne : ∀ z ∈ s, x.drop z ≠ x.drop i := by
      intro z hz e
      have h1 := hmem z hz
      have := drop_inj (by omega) (by omega) e
      omega
    have hl1 := ra_l1 x hb hx i (by omega) s (fun z hz => (hmem z hz).2) (by omega) (sufs x, 0) hs (fun low hlow h1 h2 => ?_) s.length 0 s.length (by omega) (by omega) (fun q h hq => by omega) (fun q h hq => by omega)
    · refine evs hl1 fun k => ?_
      show haystackref17_Array.l0 (k + 1) x _ (((i + 1 : Nat) : Int) - 1) = _
      (conv => lhs; unfold haystackref17_Array.l0)
      try dsimp only
      rw [if_pos (by omega), List.length_map, show ((i + 1 : Nat) : Int) - 1 = (i : Int) by omega]
      rfl
    · have e1 : wrap64 ((i : Int) - 1) = (i : Int) - 1 := by unfold wrap64; omega
      have hz := ra_l0 x hb hx i (s.take low ++ i :: s.drop low) (by omega) ?_ ?_
      · rw [List.map_append, List.map_cons, List.map_take, List.map_drop] at hz
        rw [e1]
        exact hz
      · refine (List.perm_middle).trans ?_
        rw [List.take_append_drop, show x.length + 1 - i = (x.length + 1 - (i + 1)) + 1 by omega, List.range'_succ]
        exact List.Perm.cons i hp
      · rw [List.pairwise_append]
        have hd := List.pairwise_append.1 (by rw [List.take_append_drop]; exact hs : (s.take low ++ s.drop low).Pairwise fun a b => lexlt (x.drop a) (x.drop b) = true)
        have hlo : ∀ a ∈ s.take low, lexlt (x.drop a) (x.drop i) = true := by
          intro a ha
          obtain ⟨q, hq, rfl⟩ := List.mem_iff_getElem.1 ha
          rw [List.length_take] at hq
          rw [List.getElem_take]
          exact h1 q (by omega) (by omega)
        have hhi : ∀ b ∈ s.drop low, lexlt (x.drop i) (x.drop b) = true := by
          intro b hb'
          have hbs := List.mem_of_mem_drop hb'
          obtain ⟨q, hq, rfl⟩ := List.mem_iff_getElem.1 hb'
          rw [List.length_drop] at hq
          rw [List.getElem_drop] at hbs ⊢
          have h3 := h2 (low + q) (by omega) (by omega)
          rcases lexlt_total (hne _ hbs) with h | h
          · exact absurd h h3
          · exact h
        refine ⟨hd.1, List.pairwise_cons.2 ⟨hhi, hd.2.1⟩, fun a ha b hb' => ?_⟩
        rcases List.mem_cons.1 hb' with rfl | hb''
        · exact hlo a ha
        · exact hd.2.2 a ha b hb''

theorem ra_f (x : List Int) (hb : ∀ z ∈ x, 0 ≤ z ∧ z < 256) (hx : x.length ≤ 8192) : Ev (fun k => haystackref17_Array.f k x) (sufs x, 0) := by
  obtain ⟨K, hK⟩ := ra_l0 x hb hx x.length [x.length] (Nat.le_refl _) (by rw [show x.length + 1 - x.length = 1 by omega]; exact List.Perm.refl _) (List.pairwise_singleton _ _)
  refine ⟨K, fun k hk => ?_⟩
  show haystackref17_Array.f k x = _
  unfold haystackref17_Array.f
  rw [if_neg (by omega), show wrap64 ((x.length : Int) - 1) = (x.length : Int) - 1 by unfold wrap64; omega]
  exact hK k hk



end Go.Proofs.Ytalhipjgafjmoaa.PureBwtRow
namespace Go.Proofs.Ytalhipjgafjmoaa.Pure
open Go.RowKit Go.Proofs.Ytalhipjgafjmoaa.PureBwtRow Go.Proofs.Ytalhipjgafjmoaa.PBwtRow Go.Proofs.YtalhipjgafjmoaaW.PrintWords Go.Proofs.YtalhipjgafjmoaaW.PrintLast Go.Proofs.MathSuf Go.Proofs.Ytalhipjgafjmoaa.Bwt
set_option linter.unusedVariables false
set_option linter.unusedSimpArgs false

theorem BwtRow : haystacklaw18_BwtRow.Pure := by
  intro l h1 h2 hw
  have hb := bytes_of_wf hw
  by_cases hn : (l.length : Int) > 600
  · obtain ⟨k, hk⟩ := heads_ev.rounds
    refine ⟨k, ?_⟩
    unfold haystacklaw18_BwtRow.f
    rw [if_pos hn, hk]
    rfl
  · refine Ev.rounds (g := fun k => haystacklaw18_BwtRow.f k l) ?_
    unfold haystacklaw18_BwtRow.f
    refine evg (g := fun k => _) ?_ (fun k => if_neg hn)
    refine Ev.bind (make_ev l hb (by omega)) ?_
    dsimp only
    refine Ev.bind (ra_f l hb (by omega)) ?_
    dsimp only
    have hr := row_in l
    have hl := mkLast_length l
    have hs := sufs_length l
    obtain ⟨K, hK⟩ := heads_ev
    dsimp only at hK
    refine evk K fun k hk => ?_
    have e0 : rd (sufs l) (mkRow l) = 0 := by
      obtain ⟨h, e⟩ := sufN_R l 0 (Nat.zero_le _)
      rw [mkRow_R, rdn, List.getD_eq_getElem?_getD]
      unfold sufs
      rw [List.getElem?_map, List.getElem?_eq_getElem h, e]
      rfl
    have hw' : wrap64 (((sufs l).length : Int) - 1) = (l.length : Int) := by rw [hs, w64i _ (by omega) (by omega)]; omega
    rw [if_pos rfl, if_pos rfl, if_neg (by omega), if_neg (by rw [hs]; omega), if_pos (by omega), if_pos (by rw [hs]; omega), if_pos e0, hw', if_pos (by rw [hl]), hK k hk]
    rfl

end Go.Proofs.Ytalhipjgafjmoaa.Pure
