/- BwtCounts: symbols are as many as they were, and places of firsts rise by how often they stand: for every text of at most 1500 bytes, symbol. -/
import Derived.Test.YtalhipjgafjmoaaPBwtCountsx5
import Derived.Test.YtalhipjgafjmoaaMathBwt
import Derived.Lib.BytesEntry
namespace Go.Proofs.Ytalhipjgafjmoaa.PureBwtCounts
open Go.RowKit Go.Proofs.Ytalhipjgafjmoaa.PBwtCounts Go.Proofs.YtalhipjgafjmoaaW.PrintWords Go.Proofs.YtalhipjgafjmoaaW.PrintLast Go.Proofs.MathSuf Go.Proofs.Ytalhipjgafjmoaa.Bwt
set_option linter.unusedVariables false
set_option linter.unusedSimpArgs false
theorem evk {α : Type} {r : α} {f : Nat → Option α} (K : Nat) (e : ∀ k, K ≤ k → f k = some r) : Ev f r := ⟨K, e⟩
theorem evc {α : Type} {r : α} {f : Nat → Option α} (e : ∀ k, f k = some r) : Ev f r := ⟨0, fun k _ => e k⟩
theorem evs {α : Type} {f g : Nat → Option α} {r : α} (h : Ev g r) (e : ∀ k, f (k + 1) = g k) : Ev f r := Ev.step e h
theorem evg {α : Type} {f g : Nat → Option α} {r : α} (h : Ev g r) (e : ∀ k, f k = g k) : Ev f r := Ev.congr e h
theorem ev1 {α : Type} {f : Nat → Option α} {r : α} (e : ∀ k, f (k + 1) = some r) : Ev f r := Ev.step e (Ev.now r)
theorem rdn (l : List Int) (i : Nat) : rd l (i : Int) = l.getD i 0 := by simp [rd]
theorem w64 (i : Nat) (h : i < 9000000000000000000) : wrap64 ((i : Int) + 1) = ((i + 1 : Nat) : Int) := by
  unfold wrap64
  omega
theorem w64i (x : Int) (h : -9000000000000000000 < x) (h2 : x < 9000000000000000000) : wrap64 x = x := by
  unfold wrap64
  omega
theorem bytes_of_wf {l : List Int} (hw : ∀ x ∈ l, (Lit.int .u8 x).wf = true) : ∀ x ∈ l, 0 ≤ x ∧ x < 256 := by
  intro x hx
  have h := hw x hx
  simp [Lit.wf, IntKind.min, IntKind.max, IntKind.signed, IntKind.bits] at h
  omega
theorem make_ev (l : List Int) (hb : ∀ x ∈ l, 0 ≤ x ∧ x < 256) (hn : l.length ≤ 8192) : Ev (fun k => bwt_Make.f k l) (mkLast l, mkRow l, fstTo l 256, 0) :=
  Ev.of (bwt_Make.mono l) (make_f l hb hn 0)
theorem last_bytes {l : List Int} (hb : ∀ x ∈ l, 0 ≤ x ∧ x < 256) : ∀ x ∈ mkLast l, 0 ≤ x ∧ x < 256 := fun x hx => hb x ((mkLast_perm l).mem_iff.1 hx)
theorem back_f {last : List Int} (hb : ∀ x ∈ last, 0 ≤ x ∧ x < 256) (row : Int) (C : List Int) : bwt_Back.f last row C = some (backS last row C) := by
  unfold bwt_Back.f
  rw [if_pos (all_bytes hb)]
theorem back_make (l : List Int) (hb : ∀ x ∈ l, 0 ≤ x ∧ x < 256) (hn : l.length ≤ 8192) : bwt_Back.f (mkLast l) (mkRow l) (fstTo l 256) = some (l, 0) := by
  rw [back_f (last_bytes hb), backS_make l (fun x hx => (hb x hx).1) hn]
theorem check_make (l : List Int) (hb : ∀ x ∈ l, 0 ≤ x ∧ x < 256) (hn : l.length ≤ 8192) : bwt_Check.f (mkLast l) (mkRow l) (fstTo l 256) = some true := by
  unfold bwt_Check.f
  rw [back_make l hb hn]
  rfl
theorem row_in (l : List Int) : 0 ≤ mkRow l ∧ mkRow l ≤ l.length := by
  rw [mkRow_R]
  have := R_le l 0 (Nat.zero_le _)
  omega
theorem step_ev (l : List Int) (hb : ∀ x ∈ l, 0 ≤ x ∧ x < 256) (hn : l.length ≤ 8192) (i : Nat) (hi : i ≤ l.length) : Ev (fun k => bwt_Step.f k (mkLast l) (mkRow l) (fstTo l 256) (i : Int)) (stepAt (mkLast l) (R l 0) i, 0) := by
  have hml := mkLast_length l
  have hs := fun c => steps_f (mkLast l) (fstTo l 256) (mkRow l) (row_in l).1 (by rw [hml]; exact (row_in l).2) (last_bytes hb) (by omega) c
  have hst : Ev (fun k => bwt_steps.f k (mkLast l) (mkRow l) (fstTo l 256)) (stepsS (mkLast l) (mkRow l).toNat) := Ev.of (bwt_steps.mono _ _ _) (hs 0)
  obtain ⟨K, hK⟩ := hst
  dsimp only at hK
  refine ⟨K, fun k hk => ?_⟩
  show bwt_Step.f k _ _ _ _ = _
  unfold bwt_Step.f
  rw [check_make l hb hn, Option.bind_some, if_pos rfl, if_neg (by omega), if_neg (by rw [hml]; omega), hK k hk, Option.bind_some, if_pos (by omega), if_pos (by rw [stepsS_length, hml]; omega), rdn, stepsS_get _ _ _ (by rw [hml]; omega), mkRow_R, Int.toNat_natCast]
theorem step_out (l : List Int) (hb : ∀ x ∈ l, 0 ≤ x ∧ x < 256) (hn : l.length ≤ 8192) (i : Int) (hi : (l.length : Int) < i) (k : Nat) : bwt_Step.f k (mkLast l) (mkRow l) (fstTo l 256) i = some (0, 3) := by
  unfold bwt_Step.f
  rw [check_make l hb hn, Option.bind_some, if_pos rfl, if_neg (by omega), if_pos (by rw [mkLast_length]; omega)]
theorem runs_make (l : List Int) (hb : ∀ x ∈ l, 0 ≤ x ∧ x < 256) (hn : l.length ≤ 8192) : bwt_Runs.f (mkLast l) (mkRow l) (fstTo l 256) = some (runsN (mkLast l)) := by
  unfold bwt_Runs.f
  rw [check_make l hb hn, Option.bind_some, if_pos rfl, if_pos (by rw [mkLast_length]; omega)]

/-! heads -/
def ban : List Int := [98, 97, 110, 97, 110, 97]
theorem sufs_ban : sufs ban = [6, 5, 3, 1, 0, 4, 2] := by
  have h : IsSuf ban [6, 5, 3, 1, 0, 4, 2] := ⟨by decide, by decide⟩
  exact sufs_of h
theorem last_ban : mkLast ban = [97, 110, 110, 98, 97, 97] := by
  unfold mkLast
  rw [sufs_ban]
  decide +kernel
theorem row_ban : mkRow ban = 4 := by
  unfold mkRow
  rw [sufs_ban]
  decide +kernel
theorem ban_bytes : ∀ x ∈ ban, 0 ≤ x ∧ x < 256 := by decide
theorem back_nil : bwt_Back.f [] 0 [] = some ([], 161) := by
  rw [back_f (by intro x hx; cases hx)]
  have h : (backS [] 0 []).2 ≠ 0 := by
    intro h
    have h1 := (backS_ok h).2.2.2.2.2.1
    have h2 := congrArg List.length h1
    rw [fstTo_length] at h2
    cases h2
  rw [backS_bad h]
theorem heads_ev : Ev (fun k => haystacklaw18_heads.f k) true := by
  unfold haystacklaw18_heads.f
  refine Ev.bind (make_ev ban ban_bytes (by decide)) ?_
  dsimp only
  rw [back_make ban ban_bytes (by decide)]
  refine Ev.bind (evc fun _ => rfl) ?_
  refine Ev.bind (step_ev ban ban_bytes (by decide) 0 (Nat.zero_le _)) ?_
  refine Ev.bind (evc fun k => step_out ban ban_bytes (by decide) 7 (by decide) k) ?_
  refine Ev.bind (evc fun k => back_nil) ?_
  refine evc fun k => ?_
  have hl := fstTo_length ban 256
  have h98 : rd (fstTo ban 256) 98 = 4 := by
    rw [show (98 : Int) = ((98 : Nat) : Int) from rfl, rdn, fstTo_get ban 256 98 (by decide)]
    decide +kernel
  have hst : stepAt (mkLast ban) (R ban 0) 0 = 1 := by
    have hR : (R ban 0 : Int) = 4 := by rw [← mkRow_R, row_ban]
    have hR' : R ban 0 = 4 := by omega
    rw [hR', last_ban]
    decide +kernel
  dsimp only
  rw [if_pos rfl, check_make ban ban_bytes (by decide), runs_make ban ban_bytes (by decide), hst, last_ban, row_ban]
  rw [if_pos (by decide +kernel), if_pos rfl, if_pos (by rw [hl]; rfl), if_pos (by rw [hl]; decide), if_pos h98, if_pos rfl, if_pos (by decide +kernel), if_pos rfl, if_pos rfl, if_pos rfl, if_pos rfl, Option.bind_some, if_pos rfl, Option.bind_some]
  decide +kernel

def nOf (l : List Int) (c : Int) : Nat := l.countP fun x => decide (x = c)
theorem nOf_take (l : List Int) (c : Int) (i : Nat) (hi : i < l.length) : nOf (l.take (i + 1)) c = nOf (l.take i) c + (if l.getD i 0 = c then 1 else 0) := by
  unfold nOf
  rw [List.take_add_one, List.countP_append, List.getElem?_eq_getElem hi, List.getD_eq_getElem?_getD, List.getElem?_eq_getElem hi]
  simp only [Option.toList_some, List.countP_cons, List.countP_nil, Option.getD_some, decide_eq_true_eq]
  split <;> simp
theorem nOf_le (l : List Int) (c : Int) : nOf l c ≤ l.length := List.countP_le_length
theorem counts_l1 (l last C : List Int) (row c n : Int) (hl : last.length < 9000000000000000000) (r : Bool)
    (hfin : Ev (fun k => haystacklaw18_BwtCounts.l1 (k + 1) l c n (nOf last c : Int) (last.length : Int) last row C) r) : ∀ (m i : Nat), i + m = last.length → Ev (fun k => haystacklaw18_BwtCounts.l1 k l c n (nOf (last.take i) c : Int) (i : Int) last row C) r
  | 0, i, h => by
    obtain rfl : i = last.length := by omega
    rw [List.take_length]
    exact evs hfin fun k => rfl
  | m + 1, i, h => by
    have hi : i < last.length := by omega
    refine evs (counts_l1 l last C row c n hl r hfin m (i + 1) (by omega)) fun k => ?_
    have hle := nOf_le (last.take i) c
    rw [List.length_take] at hle
    rw [nOf_take last c i hi]
    show haystacklaw18_BwtCounts.l1 (k + 1) _ _ _ _ _ _ _ _ = _
    (conv => lhs; unfold haystacklaw18_BwtCounts.l1)
    rw [if_pos (by omega), if_pos (by omega), rdn, w64 i (by omega)]
    by_cases e : last.getD i 0 = c
    · rw [if_pos e, if_pos e, w64 _ (by omega)]
    · rw [if_neg e, if_neg e]
      rfl
theorem counts_l0 (l last C : List Int) (row c n : Int) (hl : l.length < 9000000000000000000) (r : Bool)
    (hfin : Ev (fun k => haystacklaw18_BwtCounts.l1 k l c (nOf l c : Int) n 0 last row C) r) : ∀ (m i : Nat), i + m = l.length → Ev (fun k => haystacklaw18_BwtCounts.l0 k l c (nOf (l.take i) c : Int) n (i : Int) last row C) r
  | 0, i, h => by
    obtain rfl : i = l.length := by omega
    rw [List.take_length]
    refine evs hfin fun k => ?_
    show haystacklaw18_BwtCounts.l0 (k + 1) _ _ _ _ _ _ _ _ = _
    (conv => lhs; unfold haystacklaw18_BwtCounts.l0)
    rw [if_neg (by omega)]
  | m + 1, i, h => by
    have hi : i < l.length := by omega
    refine evs (counts_l0 l last C row c n hl r hfin m (i + 1) (by omega)) fun k => ?_
    have hle := nOf_le (l.take i) c
    rw [List.length_take] at hle
    rw [nOf_take l c i hi]
    show haystacklaw18_BwtCounts.l0 (k + 1) _ _ _ _ _ _ _ _ = _
    (conv => lhs; unfold haystacklaw18_BwtCounts.l0)
    rw [if_pos (by omega), if_pos (by omega), rdn, w64 i (by omega)]
    by_cases e : l.getD i 0 = c
    · rw [if_pos e, if_pos e, w64 _ (by omega)]
    · rw [if_neg e, if_neg e]
      rfl
theorem filter_len {α : Type} (l : List α) (f : α → Bool) : (l.filter f).length ≤ l.length := List.length_filter_le _ _
theorem runsN_le (l : List Int) : runsN l ≤ l.length := by
  unfold runsN Go.Lib.compactUpTo
  rw [List.length_map]
  have := List.length_filter_le (Go.Lib.keeps l.toArray) (List.range l.length)
  rw [List.length_range] at this
  omega
theorem fst_256 (l : List Int) (hb : ∀ x ∈ l, 0 ≤ x ∧ x < 256) : fst l 256 = (l.length : Int) + 1 := by
  unfold fst
  have : l.countP (fun x => decide (x < ((256 : Nat) : Int))) = l.length := by
    rw [List.countP_eq_length]
    intro x hx
    rw [decide_eq_true_eq]
    exact (hb x hx).2
  rw [this]
  omega
theorem fst_0 (l : List Int) (hb : ∀ x ∈ l, 0 ≤ x ∧ x < 256) : fst l 0 = 1 := by
  unfold fst
  have : l.countP (fun x => decide (x < ((0 : Nat) : Int))) = 0 := by
    rw [List.countP_eq_zero]
    intro x hx
    have := (hb x hx).1
    rw [decide_eq_true_eq]
    omega
  rw [this]
  rfl

end Go.Proofs.Ytalhipjgafjmoaa.PureBwtCounts
namespace Go.Proofs.Ytalhipjgafjmoaa.Pure
open Go.RowKit Go.Proofs.Ytalhipjgafjmoaa.PureBwtCounts Go.Proofs.Ytalhipjgafjmoaa.PBwtCounts Go.Proofs.YtalhipjgafjmoaaW.PrintWords Go.Proofs.YtalhipjgafjmoaaW.PrintLast Go.Proofs.MathSuf Go.Proofs.Ytalhipjgafjmoaa.Bwt
set_option linter.unusedVariables false
set_option linter.unusedSimpArgs false

theorem BwtCounts : haystacklaw18_BwtCounts.Pure := by
  intro l a h1 h2 hw ha
  have hb := bytes_of_wf hw
  have hba := bytes_of_wf (l := [a]) (by intro x hx; rw [List.mem_singleton] at hx; rw [hx]; exact ha) a (List.mem_singleton_self a)
  obtain ⟨c, rfl⟩ := Int.eq_ofNat_of_zero_le hba.1
  by_cases hn : (l.length : Int) > 1500
  · obtain ⟨k, hk⟩ := heads_ev.rounds
    refine ⟨k, ?_⟩
    unfold haystacklaw18_BwtCounts.f
    rw [if_pos hn, hk]
    rfl
  · refine Ev.rounds (g := fun k => haystacklaw18_BwtCounts.f k l (c : Int)) ?_
    unfold haystacklaw18_BwtCounts.f
    refine evg (g := fun k => _) ?_ (fun k => if_neg hn)
    refine Ev.bind (make_ev l hb (by omega)) ?_
    dsimp only
    have hl := mkLast_length l
    have hC := fstTo_length l 256
    refine evg (g := fun k => haystacklaw18_BwtCounts.j0 k l (c : Int) false (mkLast l) (mkRow l) (fstTo l 256)) ?_ (fun k => by rw [if_pos rfl, hC]; rfl)
    have hbl := last_bytes hb
    have hcnt : nOf (mkLast l) (c : Int) = nOf l (c : Int) := (mkLast_perm l).countP_eq _
    have hnle := nOf_le l (c : Int)
    have hfin : Ev (fun k => haystacklaw18_BwtCounts.l1 (k + 1) l (c : Int) (nOf l (c : Int) : Int) (nOf (mkLast l) (c : Int) : Int) ((mkLast l).length : Int) (mkLast l) (mkRow l) (fstTo l 256)) true := by
      obtain ⟨K, hK⟩ := heads_ev
      dsimp only at hK
      refine ⟨K, fun k hk => ?_⟩
      show haystacklaw18_BwtCounts.l1 (k + 1) _ _ _ _ _ _ _ _ = _
      (conv => lhs; unfold haystacklaw18_BwtCounts.l1)
      have hw1 : wrap64 ((wrap64 (c : Int)) + 1) = ((c + 1 : Nat) : Int) := by rw [w64i (c : Int) (by omega) (by omega), w64 c (by omega)]
      have hg1 : rd (fstTo l 256) ((c + 1 : Nat) : Int) = fst l (c + 1) := by rw [rdn, fstTo_get l 256 _ (by omega)]
      have hg2 : rd (fstTo l 256) (c : Int) = fst l c := by rw [rdn, fstTo_get l 256 _ (by omega)]
      have hg3 : rd (fstTo l 256) 0 = 1 := by rw [show (0 : Int) = ((0 : Nat) : Int) from rfl, rdn, fstTo_get l 256 _ (by omega), fst_0 l hb]
      have hg4 : rd (fstTo l 256) 256 = (l.length : Int) + 1 := by rw [show (256 : Int) = ((256 : Nat) : Int) from rfl, rdn, fstTo_get l 256 _ (by omega), fst_256 l hb]
      have hf := fst_succ l c
      have hc0 : cnt l l.length c = (nOf l (c : Int) : Int) := by unfold cnt nOf; rw [List.take_length]
      rw [if_neg (by omega), if_pos (by rw [hcnt]), hw1, hC, if_pos (by omega), if_pos (by omega), if_pos (by omega), if_pos (by omega), hg1, hg2, hf, hc0, w64i _ (by omega) (by omega), if_pos (by omega), if_pos (by omega), hg3, if_pos rfl, if_pos (by omega), hg4, w64i _ (by omega) (by omega), if_pos rfl,
        runs_make l hb (by omega), Option.bind_some, if_pos (by have := runsN_le (mkLast l); omega), hK k hk]
      rfl
    have h1 := counts_l1 l (mkLast l) (fstTo l 256) (mkRow l) (c : Int) (nOf l (c : Int) : Int) (by omega) true hfin (mkLast l).length 0 (by omega)
    have h0 := counts_l0 l (mkLast l) (fstTo l 256) (mkRow l) (c : Int) 0 (by omega) true h1 l.length 0 (by omega)
    refine evs h0 fun k => ?_
    (conv => lhs; unfold haystacklaw18_BwtCounts.j0)
    rfl

end Go.Proofs.Ytalhipjgafjmoaa.Pure
