/- BwtOnce: of turned texts, right or not, one that is turned back is turned to itself again: for every one. -/
import Derived.Test.YtalhipjgafjmoaaPBwtOncex4
import Derived.Test.YtalhipjgafjmoaaMathBwt
import Derived.Lib.BytesEntry
namespace Go.Proofs.Ytalhipjgafjmoaa.PureBwtOnce
open Go.RowKit Go.Proofs.Ytalhipjgafjmoaa.PBwtOnce Go.Proofs.YtalhipjgafjmoaaW.PrintWords Go.Proofs.YtalhipjgafjmoaaW.PrintLast Go.Proofs.MathSuf Go.Proofs.Ytalhipjgafjmoaa.Bwt
set_option linter.unusedVariables false
set_option linter.unusedSimpArgs false
theorem evk {α : Type} {r : α} {f : Nat → Option α} (K : Nat) (e : ∀ k, K ≤ k → f k = some r) : Ev f r := ⟨K, e⟩
theorem evc {α : Type} {r : α} {f : Nat → Option α} (e : ∀ k, f k = some r) : Ev f r := ⟨0, fun k _ => e k⟩
theorem evs {α : Type} {f g : Nat → Option α} {r : α} (h : Ev g r) (e : ∀ k, f (k + 1) = g k) : Ev f r := Ev.step e h
theorem evg {α : Type} {f g : Nat → Option α} {r : α} (h : Ev g r) (e : ∀ k, f k = g k) : Ev f r := Ev.congr e h
theorem ev1 {α : Type} {f : Nat → Option α} {r : α} (e : ∀ k, f (k + 1) = some r) : Ev f r := Ev.step e (Ev.now r)
theorem rdn (l : List Int) (i : Nat) : rd l (i : Int) = l.getD i 0 := by simp [rd]
theorem w64 (i : Nat) (h : i < 9000000000000000000) : wrap64 ((i : Int) + 1) = ((i + 1 : Nat) : Int) := by
  unfold wrap64
  omega
theorem w64i (x : Int) (h : -9000000000000000000 < x) (h2 : x < 9000000000000000000) : wrap64 x = x := by
  unfold wrap64
  omega
theorem bytes_of_wf {l : List Int} (hw : ∀ x ∈ l, (Lit.int .u8 x).wf = true) : ∀ x ∈ l, 0 ≤ x ∧ x < 256 := by
  intro x hx
  have h := hw x hx
  simp [Lit.wf, IntKind.min, IntKind.max, IntKind.signed, IntKind.bits] at h
  omega
theorem make_ev (l : List Int) (hb : ∀ x ∈ l, 0 ≤ x ∧ x < 256) (hn : l.length ≤ 8192) : Ev (fun k => bwt_Make.f k l) (mkLast l, mkRow l, fstTo l 256, 0) :=
  Ev.of (bwt_Make.mono l) (make_f l hb hn 0)
theorem last_bytes {l : List Int} (hb : ∀ x ∈ l, 0 ≤ x ∧ x < 256) : ∀ x ∈ mkLast l, 0 ≤ x ∧ x < 256 := fun x hx => hb x ((mkLast_perm l).mem_iff.1 hx)
theorem back_f {last : List Int} (hb : ∀ x ∈ last, 0 ≤ x ∧ x < 256) (row : Int) (C : List Int) : bwt_Back.f last row C = some (backS last row C) := by
  unfold bwt_Back.f
  rw [if_pos (all_bytes hb)]
theorem back_make (l : List Int) (hb : ∀ x ∈ l, 0 ≤ x ∧ x < 256) (hn : l.length ≤ 8192) : bwt_Back.f (mkLast l) (mkRow l) (fstTo l 256) = some (l, 0) := by
  rw [back_f (last_bytes hb), backS_make l (fun x hx => (hb x hx).1) hn]
theorem check_make (l : List Int) (hb : ∀ x ∈ l, 0 ≤ x ∧ x < 256) (hn : l.length ≤ 8192) : bwt_Check.f (mkLast l) (mkRow l) (fstTo l 256) = some true := by
  unfold bwt_Check.f
  rw [back_make l hb hn]
  rfl
theorem row_in (l : List Int) : 0 ≤ mkRow l ∧ mkRow l ≤ l.length := by
  rw [mkRow_R]
  have := R_le l 0 (Nat.zero_le _)
  omega
theorem step_ev (l : List Int) (hb : ∀ x ∈ l, 0 ≤ x ∧ x < 256) (hn : l.length ≤ 8192) (i : Nat) (hi : i ≤ l.length) : Ev (fun k => bwt_Step.f k (mkLast l) (mkRow l) (fstTo l 256) (i : Int)) (stepAt (mkLast l) (R l 0) i, 0) := by
  have hml := mkLast_length l
  have hs := fun c => steps_f (mkLast l) (fstTo l 256) (mkRow l) (row_in l).1 (by rw [hml]; exact (row_in l).2) (last_bytes hb) (by omega) c
  have hst : Ev (fun k => bwt_steps.f k (mkLast l) (mkRow l) (fstTo l 256)) (stepsS (mkLast l) (mkRow l).toNat) := Ev.of (bwt_steps.mono _ _ _) (hs 0)
  obtain ⟨K, hK⟩ := hst
  dsimp only at hK
  refine ⟨K, fun k hk => ?_⟩
  show bwt_Step.f k _ _ _ _ = _
  unfold bwt_Step.f
  rw [check_make l hb hn, Option.bind_some, if_pos rfl, if_neg (by omega), if_neg (by rw [hml]; omega), hK k hk, Option.bind_some, if_pos (by omega), if_pos (by rw [stepsS_length, hml]; omega), rdn, stepsS_get _ _ _ (by rw [hml]; omega), mkRow_R, Int.toNat_natCast]
theorem step_out (l : List Int) (hb : ∀ x ∈ l, 0 ≤ x ∧ x < 256) (hn : l.length ≤ 8192) (i : Int) (hi : (l.length : Int) < i) (k : Nat) : bwt_Step.f k (mkLast l) (mkRow l) (fstTo l 256) i = some (0, 3) := by
  unfold bwt_Step.f
  rw [check_make l hb hn, Option.bind_some, if_pos rfl, if_neg (by omega), if_pos (by rw [mkLast_length]; omega)]
theorem runs_make (l : List Int) (hb : ∀ x ∈ l, 0 ≤ x ∧ x < 256) (hn : l.length ≤ 8192) : bwt_Runs.f (mkLast l) (mkRow l) (fstTo l 256) = some (runsN (mkLast l)) := by
  unfold bwt_Runs.f
  rw [check_make l hb hn, Option.bind_some, if_pos rfl, if_pos (by rw [mkLast_length]; omega)]

/-! heads -/
def ban : List Int := [98, 97, 110, 97, 110, 97]
theorem sufs_ban : sufs ban = [6, 5, 3, 1, 0, 4, 2] := by
  have h : IsSuf ban [6, 5, 3, 1, 0, 4, 2] := ⟨by decide, by decide⟩
  exact sufs_of h
theorem last_ban : mkLast ban = [97, 110, 110, 98, 97, 97] := by
  unfold mkLast
  rw [sufs_ban]
  decide +kernel
theorem row_ban : mkRow ban = 4 := by
  unfold mkRow
  rw [sufs_ban]
  decide +kernel
theorem ban_bytes : ∀ x ∈ ban, 0 ≤ x ∧ x < 256 := by decide
theorem back_nil : bwt_Back.f [] 0 [] = some ([], 161) := by
  rw [back_f (by intro x hx; cases hx)]
  have h : (backS [] 0 []).2 ≠ 0 := by
    intro h
    have h1 := (backS_ok h).2.2.2.2.2.1
    have h2 := congrArg List.length h1
    rw [fstTo_length] at h2
    cases h2
  rw [backS_bad h]
theorem heads_ev : Ev (fun k => haystacklaw18_heads.f k) true := by
  unfold haystacklaw18_heads.f
  refine Ev.bind (make_ev ban ban_bytes (by decide)) ?_
  dsimp only
  rw [back_make ban ban_bytes (by decide)]
  refine Ev.bind (evc fun _ => rfl) ?_
  refine Ev.bind (step_ev ban ban_bytes (by decide) 0 (Nat.zero_le _)) ?_
  refine Ev.bind (evc fun k => step_out ban ban_bytes (by decide) 7 (by decide) k) ?_
  refine Ev.bind (evc fun k => back_nil) ?_
  refine evc fun k => ?_
  have hl := fstTo_length ban 256
  have h98 : rd (fstTo ban 256) 98 = 4 := by
    rw [show (98 : Int) = ((98 : Nat) : Int) from rfl, rdn, fstTo_get ban 256 98 (by decide)]
    decide +kernel
  have hst : stepAt (mkLast ban) (R ban 0) 0 = 1 := by
    have hR : (R ban 0 : Int) = 4 := by rw [← mkRow_R, row_ban]
    have hR' : R ban 0 = 4 := by omega
    rw [hR', last_ban]
    decide +kernel
  dsimp only
  rw [if_pos rfl, check_make ban ban_bytes (by decide), runs_make ban ban_bytes (by decide), hst, last_ban, row_ban]
  rw [if_pos (by decide +kernel), if_pos rfl, if_pos (by rw [hl]; rfl), if_pos (by rw [hl]; decide), if_pos h98, if_pos rfl, if_pos (by decide +kernel), if_pos rfl, if_pos rfl, if_pos rfl, if_pos rfl, Option.bind_some, if_pos rfl, Option.bind_some]
  decide +kernel

theorem num_l0 (x0 x1 : List Int) (hl : x0.length = x1.length) (hb : x0.length < 9000000000000000000) (c : Nat) : ∀ (m i : Nat), i + m = x0.length → haystackref07_Numbers.l0 (c + m + 1) x0 x1 (i : Int) = some (decide (x0.drop i = x1.drop i))
  | 0, i, h => by
    unfold haystackref07_Numbers.l0
    rw [if_neg (by omega), List.drop_of_length_le (by omega), List.drop_of_length_le (by omega)]
    rfl
  | m + 1, i, h => by
    unfold haystackref07_Numbers.l0
    rw [if_pos (by omega), if_pos (by omega), if_pos (by omega), rdn, rdn, w64 i (by omega), drop_get x0 i (by omega), drop_get x1 i (by omega)]
    by_cases he : x0.getD i 0 = x1.getD i 0
    · rw [if_pos he]
      have ih := num_l0 x0 x1 hl hb c m (i + 1) (by omega)
      rw [show c + (m + 1) = c + m + 1 from rfl, ih, he]
      simp
    · rw [if_neg he]
      exact congrArg some (decide_eq_false fun e => he (List.cons.inj e).1).symm
theorem num_same (x : List Int) (hb : x.length < 9000000000000000000) : Ev (fun k => haystackref07_Numbers.f k x x) true := by
  refine Ev.of (haystackref07_Numbers.mono x x) (k := 0 + x.length + 1) ?_
  unfold haystackref07_Numbers.f
  rw [if_pos rfl]
  have := num_l0 x x rfl hb 0 x.length 0 (by omega)
  rw [Int.natCast_zero] at this
  rw [this]
  simp

/-- The one pure statement. -/
def haystacklaw18_BwtOnce.Pure : Prop := ∀ (l0 : List Int) (a1 : Int) (l2 : List Int), l0.length ≤ maxLen → (∀ x ∈ l0, (Lit.int .u8 x).wf = true) → (Lit.int .i64 a1).wf = true → l2.length ≤ maxLen → (∀ x ∈ l2, (Lit.int .i64 x).wf = true) → ∃ k, haystacklaw18_BwtOnce.f k l0 a1 l2 = some true

end Go.Proofs.Ytalhipjgafjmoaa.PureBwtOnce
namespace Go.Proofs.Ytalhipjgafjmoaa.Pure
open Go.RowKit Go.Proofs.Ytalhipjgafjmoaa.PureBwtOnce Go.Proofs.Ytalhipjgafjmoaa.PBwtOnce Go.Proofs.YtalhipjgafjmoaaW.PrintWords Go.Proofs.YtalhipjgafjmoaaW.PrintLast Go.Proofs.MathSuf Go.Proofs.Ytalhipjgafjmoaa.Bwt
set_option linter.unusedVariables false
set_option linter.unusedSimpArgs false

theorem BwtOnce : haystacklaw18_BwtOnce.Pure := by
  intro l a C h1 hw ha h2 hwC
  have hb := bytes_of_wf hw
  refine Ev.rounds (g := fun k => haystacklaw18_BwtOnce.f k l a C) ?_
  unfold haystacklaw18_BwtOnce.f
  have hlong : Ev (fun k => haystacklaw18_BwtOnce.j0 k true l a C) true := by
    have h := Ev.bind (f := fun k t => some t) heads_ev (r := true) (evc fun _ => rfl)
    refine evs h fun k => ?_
    (conv => lhs; unfold haystacklaw18_BwtOnce.j0)
    rfl
  by_cases hn : (l.length : Int) > 500
  · exact evg hlong fun k => if_pos hn
  refine evg (g := fun k => haystacklaw18_BwtOnce.j0 k (decide ((C.length : Int) > 1000)) l a C) ?_ (fun k => if_neg hn)
  by_cases hc : (C.length : Int) > 1000
  · rw [decide_eq_true hc]
    exact hlong
  rw [decide_eq_false hc]
  have hck : bwt_Check.f l a C = some ((backS l a C).2 == 0) := by
    unfold bwt_Check.f
    rw [back_f hb]
    rfl
  obtain ⟨K, hK⟩ := heads_ev
  dsimp only at hK
  by_cases h0 : (backS l a C).2 = 0
  · obtain ⟨g1, g2, g3, g4, g5, g6, g7⟩ := backS_ok h0
    have gb := backS_mem (row := a) (C := C) hb
    have hmk := make_ev (backS l a C).1 gb (by omega)
    rw [g4, g5, g6] at hmk
    have hnum := num_same C (by omega)
    have hsame : Ev (fun k => haystackref18_Same.f k l a C l a C) true := by
      have h := Ev.bind (f := fun k t => some t) hnum (r := true) (evc fun _ => rfl)
      refine evg h fun k => ?_
      unfold haystackref18_Same.f
      rw [if_pos rfl, if_pos rfl]
    have hz := Ev.bind (f := fun k (bt : List Int × Int × List Int × Int) => if bt.2.2.2 = 0 then ((haystackref18_Same.f k l a C bt.1 bt.2.1 bt.2.2.1).bind fun t => (if t = true then ((bwt_Check.f l a C).bind fun t => (if t = true then ((haystacklaw18_heads.f k).bind fun t => (some t)) else none)) else none)) else none) hmk (r := true) (by
      have h := Ev.bind (f := fun k t => if t = true then ((bwt_Check.f l a C).bind fun t => (if t = true then ((haystacklaw18_heads.f k).bind fun t => (some t)) else none)) else none) hsame (r := true) (evk K fun k hk => by
        rw [if_pos rfl, hck, Option.bind_some, h0, if_pos (by decide), hK k hk]
        rfl)
      exact evg h fun k => if_pos rfl)
    refine evs hz fun k => ?_
    (conv => lhs; unfold haystacklaw18_BwtOnce.j0)
    dsimp only
    rw [if_neg (by decide), back_f hb, Option.bind_some, if_pos h0]
  · refine ⟨K + 1, fun k hk => ?_⟩
    obtain ⟨k, rfl⟩ : ∃ m, k = m + 1 := ⟨k - 1, by omega⟩
    have hbad := backS_bad h0
    show haystacklaw18_BwtOnce.j0 (k + 1) false l a C = _
    (conv => lhs; unfold haystacklaw18_BwtOnce.j0)
    dsimp only
    rw [if_neg (by decide), back_f hb, Option.bind_some, if_neg h0, hck, hbad, if_pos rfl, if_pos (show ((([], 161) : List Int × Int).1.length : Int) = 0 from rfl), Option.bind_some, if_neg (by decide), hK k (by omega)]
    rfl

end Go.Proofs.Ytalhipjgafjmoaa.Pure
