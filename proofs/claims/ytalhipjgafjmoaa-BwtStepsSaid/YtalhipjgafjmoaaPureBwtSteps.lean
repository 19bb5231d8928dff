/- BwtSteps: steps lead through all ends, and back, spelling the text from behind: for every text of at most 60 bytes. -/
import Derived.Test.YtalhipjgafjmoaaPBwtStepsx4
import Derived.Test.YtalhipjgafjmoaaMathBwt
import Derived.Lib.BytesEntry
namespace Go.Proofs.Ytalhipjgafjmoaa.PureBwtSteps
open Go.RowKit Go.Proofs.Ytalhipjgafjmoaa.PBwtSteps Go.Proofs.YtalhipjgafjmoaaW.PrintWords Go.Proofs.YtalhipjgafjmoaaW.PrintLast Go.Proofs.MathSuf Go.Proofs.Ytalhipjgafjmoaa.Bwt
set_option linter.unusedVariables false
set_option linter.unusedSimpArgs false
theorem evk {α : Type} {r : α} {f : Nat → Option α} (K : Nat) (e : ∀ k, K ≤ k → f k = some r) : Ev f r := ⟨K, e⟩
theorem evc {α : Type} {r : α} {f : Nat → Option α} (e : ∀ k, f k = some r) : Ev f r := ⟨0, fun k _ => e k⟩
theorem evs {α : Type} {f g : Nat → Option α} {r : α} (h : Ev g r) (e : ∀ k, f (k + 1) = g k) : Ev f r := Ev.step e h
theorem evg {α : Type} {f g : Nat → Option α} {r : α} (h : Ev g r) (e : ∀ k, f k = g k) : Ev f r := Ev.congr e h
theorem ev1 {α : Type} {f : Nat → Option α} {r : α} (e : ∀ k, f (k + 1) = some r) : Ev f r := Ev.step e (Ev.now r)
theorem rdn (l : List Int) (i : Nat) : rd l (i : Int) = l.getD i 0 := by simp [rd]
theorem w64 (i : Nat) (h : i < 9000000000000000000) : wrap64 ((i : Int) + 1) = ((i + 1 : Nat) : Int) := by
  unfold wrap64
  omega
theorem w64i (x : Int) (h : -9000000000000000000 < x) (h2 : x < 9000000000000000000) : wrap64 x = x := by
  unfold wrap64
  omega
theorem bytes_of_wf {l : List Int} (hw : ∀ x ∈ l, (Lit.int .u8 x).wf = true) : ∀ x ∈ l, 0 ≤ x ∧ x < 256 := by
  intro x hx
  have h := hw x hx
  simp [Lit.wf, IntKind.min, IntKind.max, IntKind.signed, IntKind.bits] at h
  omega
theorem make_ev (l : List Int) (hb : ∀ x ∈ l, 0 ≤ x ∧ x < 256) (hn : l.length ≤ 8192) : Ev (fun k => bwt_Make.f k l) (mkLast l, mkRow l, fstTo l 256, 0) :=
  Ev.of (bwt_Make.mono l) (make_f l hb hn 0)
theorem last_bytes {l : List Int} (hb : ∀ x ∈ l, 0 ≤ x ∧ x < 256) : ∀ x ∈ mkLast l, 0 ≤ x ∧ x < 256 := fun x hx => hb x ((mkLast_perm l).mem_iff.1 hx)
theorem back_f {last : List Int} (hb : ∀ x ∈ last, 0 ≤ x ∧ x < 256) (row : Int) (C : List Int) : bwt_Back.f last row C = some (backS last row C) := by
  unfold bwt_Back.f
  rw [if_pos (all_bytes hb)]
theorem back_make (l : List Int) (hb : ∀ x ∈ l, 0 ≤ x ∧ x < 256) (hn : l.length ≤ 8192) : bwt_Back.f (mkLast l) (mkRow l) (fstTo l 256) = some (l, 0) := by
  rw [back_f (last_bytes hb), backS_make l (fun x hx => (hb x hx).1) hn]
theorem check_make (l : List Int) (hb : ∀ x ∈ l, 0 ≤ x ∧ x < 256) (hn : l.length ≤ 8192) : bwt_Check.f (mkLast l) (mkRow l) (fstTo l 256) = some true := by
  unfold bwt_Check.f
  rw [back_make l hb hn]
  rfl
theorem row_in (l : List Int) : 0 ≤ mkRow l ∧ mkRow l ≤ l.length := by
  rw [mkRow_R]
  have := R_le l 0 (Nat.zero_le _)
  omega
theorem step_ev (l : List Int) (hb : ∀ x ∈ l, 0 ≤ x ∧ x < 256) (hn : l.length ≤ 8192) (i : Nat) (hi : i ≤ l.length) : Ev (fun k => bwt_Step.f k (mkLast l) (mkRow l) (fstTo l 256) (i : Int)) (stepAt (mkLast l) (R l 0) i, 0) := by
  have hml := mkLast_length l
  have hs := fun c => steps_f (mkLast l) (fstTo l 256) (mkRow l) (row_in l).1 (by rw [hml]; exact (row_in l).2) (last_bytes hb) (by omega) c
  have hst : Ev (fun k => bwt_steps.f k (mkLast l) (mkRow l) (fstTo l 256)) (stepsS (mkLast l) (mkRow l).toNat) := Ev.of (bwt_steps.mono _ _ _) (hs 0)
  obtain ⟨K, hK⟩ := hst
  dsimp only at hK
  refine ⟨K, fun k hk => ?_⟩
  show bwt_Step.f k _ _ _ _ = _
  unfold bwt_Step.f
  rw [check_make l hb hn, Option.bind_some, if_pos rfl, if_neg (by omega), if_neg (by rw [hml]; omega), hK k hk, Option.bind_some, if_pos (by omega), if_pos (by rw [stepsS_length, hml]; omega), rdn, stepsS_get _ _ _ (by rw [hml]; omega), mkRow_R, Int.toNat_natCast]
theorem step_out (l : List Int) (hb : ∀ x ∈ l, 0 ≤ x ∧ x < 256) (hn : l.length ≤ 8192) (i : Int) (hi : (l.length : Int) < i) (k : Nat) : bwt_Step.f k (mkLast l) (mkRow l) (fstTo l 256) i = some (0, 3) := by
  unfold bwt_Step.f
  rw [check_make l hb hn, Option.bind_some, if_pos rfl, if_neg (by omega), if_pos (by rw [mkLast_length]; omega)]
theorem runs_make (l : List Int) (hb : ∀ x ∈ l, 0 ≤ x ∧ x < 256) (hn : l.length ≤ 8192) : bwt_Runs.f (mkLast l) (mkRow l) (fstTo l 256) = some (runsN (mkLast l)) := by
  unfold bwt_Runs.f
  rw [check_make l hb hn, Option.bind_some, if_pos rfl, if_pos (by rw [mkLast_length]; omega)]

/-! heads -/
def ban : List Int := [98, 97, 110, 97, 110, 97]
theorem sufs_ban : sufs ban = [6, 5, 3, 1, 0, 4, 2] := by
  have h : IsSuf ban [6, 5, 3, 1, 0, 4, 2] := ⟨by decide, by decide⟩
  exact sufs_of h
theorem last_ban : mkLast ban = [97, 110, 110, 98, 97, 97] := by
  unfold mkLast
  rw [sufs_ban]
  decide +kernel
theorem row_ban : mkRow ban = 4 := by
  unfold mkRow
  rw [sufs_ban]
  decide +kernel
theorem ban_bytes : ∀ x ∈ ban, 0 ≤ x ∧ x < 256 := by decide
theorem back_nil : bwt_Back.f [] 0 [] = some ([], 161) := by
  rw [back_f (by intro x hx; cases hx)]
  have h : (backS [] 0 []).2 ≠ 0 := by
    intro h
    have h1 := (backS_ok h).2.2.2.2.2.1
    have h2 := congrArg List.length h1
    rw [fstTo_length] at h2
    cases h2
  rw [backS_bad h]
theorem heads_ev : Ev (fun k => haystacklaw18_heads.f k) true := by
  unfold haystacklaw18_heads.f
  refine Ev.bind (make_ev ban ban_bytes (by decide)) ?_
  dsimp only
  rw [back_make ban ban_bytes (by decide)]
  refine Ev.bind (evc fun _ => rfl) ?_
  refine Ev.bind (step_ev ban ban_bytes (by decide) 0 (Nat.zero_le _)) ?_
  refine Ev.bind (evc fun k => step_out ban ban_bytes (by decide) 7 (by decide) k) ?_
  refine Ev.bind (evc fun k => back_nil) ?_
  refine evc fun k => ?_
  have hl := fstTo_length ban 256
  have h98 : rd (fstTo ban 256) 98 = 4 := by
    rw [show (98 : Int) = ((98 : Nat) : Int) from rfl, rdn, fstTo_get ban 256 98 (by decide)]
    decide +kernel
  have hst : stepAt (mkLast ban) (R ban 0) 0 = 1 := by
    have hR : (R ban 0 : Int) = 4 := by rw [← mkRow_R, row_ban]
    have hR' : R ban 0 = 4 := by omega
    rw [hR', last_ban]
    decide +kernel
  dsimp only
  rw [if_pos rfl, check_make ban ban_bytes (by decide), runs_make ban ban_bytes (by decide), hst, last_ban, row_ban]
  rw [if_pos (by decide +kernel), if_pos rfl, if_pos (by rw [hl]; rfl), if_pos (by rw [hl]; decide), if_pos h98, if_pos rfl, if_pos (by decide +kernel), if_pos rfl, if_pos rfl, if_pos rfl, if_pos rfl, Option.bind_some, if_pos rfl, Option.bind_some]
  decide +kernel

theorem steps_l0' (l : List Int) (hb : ∀ x ∈ l, 0 ≤ x ∧ x < 256) (hn : l.length ≤ 60) : ∀ i : Nat, i ≤ l.length → Ev (fun k => haystacklaw18_BwtSteps.l0 k l (R l i : Int) ((i : Int) - 1) (mkLast l) (mkRow l) (fstTo l 256)) true
  | 0, hi => by
    have hst := step_ev l hb (by omega) (R l 0) (R_le l 0 (Nat.zero_le _))
    rw [stepAt_row] at hst
    have h := Ev.bind (f := fun k (bt : Int × Int) => if (R l 0 : Int) = mkRow l then (if bt.2 = 0 then (if bt.1 = 0 then ((haystacklaw18_heads.f k).bind fun t => (some t)) else none) else none) else none) hst (r := true) (by
      obtain ⟨K, hK⟩ := heads_ev
      dsimp only at hK
      refine evk K fun k hk => ?_
      rw [if_pos (mkRow_R l).symm, if_pos rfl, if_pos rfl, hK k hk]
      rfl)
    refine evs h fun k => ?_
    (conv => lhs; unfold haystacklaw18_BwtSteps.l0)
    rw [if_neg (by omega)]
  | i + 1, hi => by
    obtain ⟨h1, h2, h3⟩ := step_R l (fun x hx => (hb x hx).1) i (by omega)
    have hml := mkLast_length l
    have hrw : mkRow l = (R l 0 : Int) := mkRow_R l
    have hle := R_le l (i + 1) hi
    have hle0 := R_le l 0 (Nat.zero_le _)
    have hst := step_ev l hb (by omega) (R l (i + 1)) hle
    rw [h1] at hst
    have ih := steps_l0' l hb hn i (by omega)
    have h := Ev.bind (f := fun k (bt : Int × Int) => if bt.2 = 0 then haystacklaw18_BwtSteps.l0 k l bt.1 (wrap64 ((i : Int) - 1)) (mkLast l) (mkRow l) (fstTo l 256) else none) hst (r := true) (by
      refine evg ih fun k => ?_
      rw [if_pos rfl, w64i _ (by omega) (by omega)])
    have hj3 : Ev (fun k => haystacklaw18_BwtSteps.j3 k l (R l (i + 1) : Int) (i : Int) false (mkLast l) (mkRow l) (fstTo l 256)) true := by
      refine evs h fun k => ?_
      (conv => lhs; unfold haystacklaw18_BwtSteps.j3)
      rw [if_neg (by decide)]
    have hj2 : ∀ x : Int, x = ((if R l 0 < R l (i + 1) then R l (i + 1) - 1 else R l (i + 1) : Nat) : Int) → Ev (fun k => haystacklaw18_BwtSteps.j2 k l (R l (i + 1) : Int) (i : Int) x (mkLast l) (mkRow l) (fstTo l 256)) true := by
      intro x hx
      have hxl : (if R l 0 < R l (i + 1) then R l (i + 1) - 1 else R l (i + 1)) < l.length := by split <;> omega
      refine evs hj3 fun k => ?_
      (conv => lhs; unfold haystacklaw18_BwtSteps.j2)
      rw [hx, if_neg (by omega), if_neg (by rw [hml]; omega), if_pos (by omega), if_pos (by rw [hml]; omega), if_pos (by omega), if_pos (by omega), rdn, rdn, h2]
      rw [show (l.getD i 0 != l.getD i 0) = false by simp]
    by_cases hlt : R l 0 < R l (i + 1)
    · have hz := hj2 (wrap64 ((R l (i + 1) : Int) - 1)) (by rw [if_pos hlt, w64i _ (by omega) (by omega)]; omega)
      refine evs hz fun k => ?_
      (conv => lhs; unfold haystacklaw18_BwtSteps.l0)
      rw [if_pos (by omega), if_neg (by omega), if_pos (by omega), show ((i + 1 : Nat) : Int) - 1 = (i : Int) by omega]
    · have hz := hj2 (R l (i + 1) : Int) (by rw [if_neg hlt])
      refine evs hz fun k => ?_
      (conv => lhs; unfold haystacklaw18_BwtSteps.l0)
      rw [if_pos (by omega), if_neg (by omega), if_neg (by omega), show ((i + 1 : Nat) : Int) - 1 = (i : Int) by omega]

end Go.Proofs.Ytalhipjgafjmoaa.PureBwtSteps
namespace Go.Proofs.Ytalhipjgafjmoaa.Pure
open Go.RowKit Go.Proofs.Ytalhipjgafjmoaa.PureBwtSteps Go.Proofs.Ytalhipjgafjmoaa.PBwtSteps Go.Proofs.YtalhipjgafjmoaaW.PrintWords Go.Proofs.YtalhipjgafjmoaaW.PrintLast Go.Proofs.MathSuf Go.Proofs.Ytalhipjgafjmoaa.Bwt
set_option linter.unusedVariables false
set_option linter.unusedSimpArgs false

theorem BwtSteps : haystacklaw18_BwtSteps.Pure := by
  intro l h1 h2 hw
  have hb := bytes_of_wf hw
  by_cases hn : (l.length : Int) > 60
  · obtain ⟨k, hk⟩ := heads_ev.rounds
    refine ⟨k, ?_⟩
    unfold haystacklaw18_BwtSteps.f
    rw [if_pos hn, hk]
    rfl
  · refine Ev.rounds (g := fun k => haystacklaw18_BwtSteps.f k l) ?_
    unfold haystacklaw18_BwtSteps.f
    refine evg (g := fun k => _) ?_ (fun k => if_neg hn)
    refine Ev.bind (make_ev l hb (by omega)) ?_
    dsimp only
    have hml := mkLast_length l
    refine evg (g := fun k => haystacklaw18_BwtSteps.j0 k l false (mkLast l) (mkRow l) (fstTo l 256)) ?_ (fun k => by rw [if_pos rfl, hml, show ((l.length : Int) != (l.length : Int)) = false by simp])
    have h := steps_l0' l hb (by omega) l.length (Nat.le_refl _)
    rw [R_end] at h
    refine evs h fun k => ?_
    (conv => lhs; unfold haystacklaw18_BwtSteps.j0)
    dsimp only
    rw [if_neg (by decide), w64i _ (by omega) (by omega)]
    rfl

end Go.Proofs.Ytalhipjgafjmoaa.Pure
