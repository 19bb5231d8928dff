/- Part 18 of what this claim leans on: YLayInsB, YStableB. -/
import Derived.Ground.SlsfProg
import Derived.Shelf.SlSortCmp.Insertion1
import Derived.Test.YtdoooffmaokaeaaGreatDoorProg
import Derived.Test.YtdoooffmaokaeaaGreatDoorZ17
import Derived.Test.YtdoooffmaokaeaaGreatDoorZ16
/-
  DERIVED: THE SHELF's CONTRACTS AT THIS DUMP, IN PLAIN WORDS (tools/lay-plain.mjs out of 'TryShelf.lean', which tools/lay-shelf.mjs wrote): THE SAME DECLARATIONS UNDER THE SAME NAMES: 'import', 'namespace', 'open', 'def', 'theorem' AND NOTHING ELSE: no command of the shelf's: FOR A HAND-IN. Each laying: the table of numbers ('.._ren') and one theorem, a field a fact of the dump's own or the kernel's comparison; each contract: ONE APPLICATION.
-/
section
set_option linter.unusedVariables false
set_option linter.unusedSimpArgs false
set_option linter.unusedSectionVars false
namespace Go.Proofs
open Go.Shelf
def Tryz.insBL_ren : Go.Shelf.Ren := ⟨fun | 20 => 100 | n => n, fun | 24 => 5 | 22 => 22 | 3 => 3 | 25 => 72 | 4 => 4 | 0 => 0 | n => n, fun | n => n⟩
theorem Tryz.insBL : Go.Proofs.SlLaysF.n20 Tryz.prog Tryz.insBL_ren := {
  mixed := by kernel_rfl
  f20 := ⟨Tryz.f100.name, by decide, Tryz.func100.trans (congrArg some (by kernel_rfl))⟩
  t0 := Tryz.underlying0
  a0 := Tryz.isAgg0
  z0 := Tryz.sizeOf0
  v0 := Tryz.zeroValue0
  t3 := Tryz.underlying3
  a3 := Tryz.isAgg3
  z3 := Tryz.sizeOf3
  v3 := Tryz.zeroValue3
  t4 := Tryz.underlying4
  a4 := Tryz.isAgg4
  z4 := Tryz.sizeOf4
  v4 := Tryz.zeroValue4
  t22 := Tryz.underlying22
  a22 := Tryz.isAgg22
  z22 := Tryz.sizeOf22
  v22 := Tryz.zeroValue22
  a24 := Tryz.isAgg5
  z24 := Tryz.sizeOf5
  t25 := Tryz.underlying72
  a25 := Tryz.isAgg72
  z25 := Tryz.sizeOf72
  v25 := Tryz.zeroValue72 }
end Go.Proofs
end
/- slices.stableCmpFunc, slices.SortStableFunc at []int, by their contracts: of a row 0, 1, .. comes the order by L, then by number. -/
section
set_option linter.unusedVariables false
set_option linter.unusedSimpArgs false
set_option linter.unusedSectionVars false
namespace Go.Proofs.YtdoooffmaokaeaaGreatDoor.StableB
open Go.RowKit Go.Shelf Go.Lib Go.Sort Go.Proofs Go.Proofs.MathMerge Go.Proofs.MathStable
set_option linter.unusedVariables false
set_option linter.unusedSimpArgs false

theorem ltOf_eq {L : Int → Int} {cf : Int → Int → Int} (h : ∀ x y, cf x y < 0 ↔ ltB L x y = true) : ltOf cf = ltB L := by
  funext x y
  have := h x y
  unfold ltOf
  by_cases c : cf x y < 0
  · rw [decide_eq_true c, this.1 c]
  · rw [decide_eq_false c]
    cases hb : ltB L x y
    · rfl
    · exact absurd (this.2 hb) c
/-- The blocks' sort, at places whose numbers ascend. -/
theorem insBlk (L : Int → Int) (enc : Int → Value) (cf : Int → Int → Int) (g : Nat) (cb : Array Value) (blk off cap a b sz : Nat) (d0 d : Array Int) (w0 w : World) (T : Told L enc cf g cb blk off d0 w0) (h0 : d0.size = sz) (hs : d.size = sz) (S : SW enc w0 blk off d w) (hab : a ≤ b) (hb : b ≤ sz) (hid : ∀ k, a ≤ k → k < b → d[k]! = (k : Int)) :
    Calls Tryz.prog 100 #[.slice (some ⟨blk, off, none⟩) sz cap, .int .i64 a, .int .i64 b, .func (.func g) #[] cb] w fun e w' => e = .returned (.tuple #[]) ∧ ∃ d', PermIn a b d d' ∧ Blk L d' a b ∧ SW enc w0 blk off d' w' := by
  have h := Any.insertionSortCmpFunc_s Tryz.insBL enc cf g cb blk off cap a b d0 d w0 w T.eg T.hC T.R (by omega) S hab (by omega) (by have := T.sz; omega)
  rw [hs, ltOf_eq T.lt] at h
  refine h.mono ?_
  rintro e w' ⟨he, S'⟩
  obtain ⟨hp, hso⟩ := ins_lex (L := L) d a b hab (by omega) fun k k' h1 h2 h3 => by rw [hid k h1 (by omega), hid k' (by omega) h3]; omega
  exact ⟨he, _, hp, ⟨hso, permIn_all d _ a b (fun x => (a : Int) ≤ x ∧ x < (b : Int)) (by omega) hp fun i h1 h2 => by rw [hid i h1 h2]; omega⟩, S'⟩

set_option maxHeartbeats 16000000 in
set_option maxRecDepth 1000000 in
theorem stable_any (L : Int → Int) (enc : Int → Value) (cf : Int → Int → Int) (g : Nat) (cb : Array Value) (blk off cap sz : Nat) (d0 d : Array Int) (w0 w : World) (T : Told L enc cf g cb blk off d0 w0) (h0 : d0.size = sz) (hs : d.size = sz) (S : SW enc w0 blk off d w) (hid : ∀ k, k < sz → d[k]! = (k : Int)) (hsz : sz ≤ 1000000) :
    Calls Tryz.prog 52 #[.slice (some ⟨blk, off, none⟩) sz cap, .int .i64 sz, .func (.func g) #[] cb] w fun e w' => e = .returned (.tuple #[]) ∧ ∃ d', PermIn 0 sz d d' ∧ SortedIn (lexB L) 0 sz d' ∧ SW enc w0 blk off d' w' := by
  have mixed := mixed
  have S0 : Aside (SW enc w0 blk off d w) := S
  have HT := Lib.hid T; have HD := Lib.hid hid
  clear S T hid
  go_enter Tryz.func52, Tryz.ntmps52
  go_wp2
  go_loopg [7, 8] (sz + 1) (fun kx s7 s8 wr => ∃ (a : Nat) (dk : Array Int), s7 = .int .i64 a ∧ s8 = .int .i64 ((a + 20 : Nat) : Int) ∧ a ≤ sz ∧ sz + 1 - a ≤ kx ∧ dk.size = sz ∧ Aside (SW enc w0 blk off dk wr) ∧ Hid (20 ∣ a ∧ PermIn 0 sz d dk ∧ Done L dk 20 a ∧ ∀ k, a ≤ k → dk[k]! = d[k]!))
  case atStart => exact ⟨0, d, rfl, rfl, by omega, by omega, hs, S0, Lib.hid ⟨Nat.dvd_zero _, permIn_refl d 0 sz, fun lo h => absurd h (Nat.not_lt_zero _), fun k _ => rfl⟩⟩
  case round =>
    clear S0
    obtain ⟨a, dk, rfl, rfl, hal, hkx, hds, S1, I⟩ := hrel
    by_cases hlt : a + 20 ≤ sz
    · have hlz : ((a + 20 : Nat) : Int) ≤ (sz : Int) := by omega
      have hr := insBlk L enc cf g cb blk off cap a (a + 20) sz d0 dk w0 wr HT.out h0 hds S1.out (by omega) hlt (fun k h1 h2 => by rw [I.out.2.2.2 k h1]; exact HD.out k (by omega))
      have zb : IntKind.i64.wrap (((a + 20 : Nat) : Int) + 20) = ((a + 20 + 20 : Nat) : Int) := by rw [IntKind.wrap_i64]; omega
      obtain ⟨b, hb⟩ : ∃ b, b = a + 20 := ⟨_, rfl⟩
      rw [← hb] at hr zb hlz ⊢
      have HB := Lib.hid hb
      clear hb
      go_wp2_with fail
      refine hr.mono ?_
      rintro e' w2 ⟨rfl, d2, hP, hB2, S2⟩
      have S3 : Aside (SW enc w0 blk off d2 w2) := S2
      have HRR := Lib.hid (And.intro hP hB2)
      clear hr hP hB2 S2 S1
      go_wp2
      go_roundg (sz + 1 - b)
      case measure => have := HB.out; omega
      case rel =>
        have hb := HB.out
        subst hb
        obtain ⟨i1, i2, i3, i4⟩ := I.out
        have hP := HRR.out.1
        exact ⟨a + 20, d2, rfl, rfl, by omega, by omega, hP.1.trans hds, S3, Lib.hid ⟨Nat.dvd_add i1 (Nat.dvd_refl _), permIn_trans _ _ _ 0 sz i2 (permIn_mono dk d2 a (a + 20) 0 sz (by omega) hlt (by omega) hP), i3.step (by omega) i1 (fun k h => hP.2.1 k (Or.inl h)) HRR.out.2, fun k h => by rw [hP.2.1 k (Or.inr h)]; exact i4 k (by omega)⟩⟩
    · have hlz : ¬ ((a + 20 : Nat) : Int) ≤ (sz : Int) := by omega
      have hr := insBlk L enc cf g cb blk off cap a sz sz d0 dk w0 wr HT.out h0 hds S1.out hal (Nat.le_refl _) (fun k h1 h2 => by rw [I.out.2.2.2 k h1]; exact HD.out k (by omega))
      go_wp2_with fail
      refine hr.mono ?_
      rintro e' w2 ⟨rfl, d2, hP, hB2, S2⟩
      have S3 : Aside (SW enc w0 blk off d2 w2) := S2
      have hR : Runs L d2 20 0 sz := by
        obtain ⟨i1, i2, i3, i4⟩ := I.out
        refine Done.runs (by omega) i1 (fun lo h1 h2 => ⟨(i3 lo h1 h2).1, (i3 lo h1 h2).2.same fun k k1 k2 => hP.2.1 k (Or.inl (by have := (i3 lo h1 h2).1; omega))⟩) hal (by omega) fun _ => hB2
      have hPP := permIn_trans _ _ _ 0 sz I.out.2.1 (permIn_mono dk d2 a sz 0 sz (by omega) (by omega) (by omega) hP)
      have hd2 : d2.size = sz := hP.1.trans hds
      have HRR := Lib.hid (And.intro hR hPP)
      clear hr hP hB2 S2 S1 hR hPP I hlz hlt hkx
      go_wp2
      go_loopg [6] sz (fun ky s6 wr => ∃ (bs : Nat) (dk : Array Int), s6 = .int .i64 bs ∧ 0 < bs ∧ bs ≤ 2 * sz + 20 ∧ sz - bs ≤ ky ∧ dk.size = sz ∧ Aside (SW enc w0 blk off dk wr) ∧ Hid (Runs L dk bs 0 sz ∧ PermIn 0 sz d dk))
      case atStart => exact ⟨20, d2, rfl, by omega, by omega, by omega, hd2, S3, HRR⟩
      case round =>
        clear S3 HRR hd2 hds
        obtain ⟨bs, dk, rfl, hbs, hbl, hky, hds, S1, I⟩ := hrel
        by_cases hlt : bs < sz
        · have hlz : (bs : Int) < (sz : Int) := by omega
          obtain ⟨b2, hb2⟩ : ∃ b2, b2 = 2 * bs := ⟨_, rfl⟩
          have z1 : IntKind.i64.wrap (2 * (bs : Int)) = (b2 : Int) := by rw [IntKind.wrap_i64]; omega
          have z2 : IntKind.i64.wrap ((bs : Int) * 2) = (b2 : Int) := by rw [IntKind.wrap_i64]; omega
          have HB2 := Lib.hid hb2
          have hb2l : b2 ≤ 2 * sz := by omega
          clear hb2
          go_wp2
          go_loopg [7, 8] (sz + 1) (fun kx s7 s8 wi => ∃ (a b : Nat) (di : Array Int), s7 = .int .i64 a ∧ s8 = .int .i64 b ∧ a ≤ sz ∧ b ≤ a + b2 ∧ sz + 1 - a ≤ kx ∧ di.size = sz ∧ Aside (SW enc w0 blk off di wi) ∧ Hid (b = a + b2 ∧ b2 ∣ a ∧ Done L di b2 a ∧ Runs L di bs a sz ∧ PermIn 0 sz d di))
          case atStart => exact ⟨0, b2, dk, rfl, rfl, by omega, by omega, by omega, hds, S1, Lib.hid ⟨by omega, Nat.dvd_zero _, fun lo h => absurd h (Nat.not_lt_zero _), I.out.1, I.out.2⟩⟩
          case round =>
            clear S1
            obtain ⟨a, b, di, rfl, rfl, hal, hbb, hkx, hdi, S1, J⟩ := hrel
            by_cases hlt2 : b ≤ sz
            · have hlz2 : (b : Int) ≤ (sz : Int) := by omega
              have hb2 := HB2.out
              have hbe := J.out.1
              obtain ⟨m, hm⟩ : ∃ m, m = a + bs := ⟨_, rfl⟩
              have z3 : IntKind.i64.wrap ((a : Int) + (bs : Int)) = (m : Int) := by rw [IntKind.wrap_i64]; omega
              have z4 : IntKind.i64.wrap ((b : Int) + (b2 : Int)) = ((b + b2 : Nat) : Int) := by rw [IntKind.wrap_i64]; omega
              have q1 : Blk L di a m := by
                have h := J.out.2.2.2.1 a (Nat.le_refl _) (by omega) (by rw [Nat.sub_self]; exact Nat.dvd_zero _)
                rw [Nat.min_eq_left (by omega)] at h
                rw [hm]; exact h
              have q2 : Blk L di m b := by
                have h := J.out.2.2.2.1 m (by omega) (by omega) (by rw [show m - a = bs by omega]; exact Nat.dvd_refl _)
                rw [Nat.min_eq_left (by omega), show m + bs = b by omega] at h
                exact h
              have hr := symMerge_any L enc cf g cb blk off cap sz d0 w0 HT.out h0 (b - a) a m b di wr (Nat.le_refl _) (by omega) (by omega) hlt2 hdi S1.out q1.1 q2.1 (q1.cross q2)
              have HQ := Lib.hid (And.intro q1 q2); have HM := Lib.hid (And.intro hm hbe)
              clear q1 q2 hm hbe hb2
              go_wp2_with fail
              refine hr.mono ?_
              rintro e' w3 ⟨rfl, d3, hP, hS, S2⟩
              have S4 : Aside (SW enc w0 blk off d3 w3) := S2
              have HPS := Lib.hid (And.intro hP hS)
              clear hr hP hS S2 S1 z3
              go_wp2
              go_roundg (sz + 1 - b)
              case measure => have := HM.out; have := HB2.out; omega
              case rel =>
                obtain ⟨hm, hbe⟩ := HM.out
                have hb2 := HB2.out
                obtain ⟨j1, j2, j3, j4, j5⟩ := J.out
                obtain ⟨hP, hS⟩ := HPS.out
                refine ⟨b, b + b2, d3, rfl, by first | rfl | go_num, hlt2, Nat.le_refl _, by omega, hP.1.trans hdi, S4, Lib.hid ⟨rfl, ?_, ?_, ?_, permIn_trans _ _ _ 0 sz j5 (permIn_mono di d3 a b 0 sz (by omega) hlt2 (by omega) hP)⟩⟩
                · rw [hbe]; exact Nat.dvd_add j2 (Nat.dvd_refl _)
                · rw [hbe]
                  refine j3.step (by omega) j2 (fun k h => hP.2.1 k (Or.inl h)) ?_
                  rw [← hbe]
                  exact HQ.out.1.merged HQ.out.2 (by omega) (by omega) (by omega) hP hS
                · rw [hbe]
                  exact j4.rest b2 (by rw [hb2]; exact Nat.dvd_mul_left _ _) (fun k h1 h2 => hP.2.1 k (Or.inr (by omega)))
            · have hlz2 : ¬ (b : Int) ≤ (sz : Int) := by omega
              have hb2 := HB2.out
              have hbe := J.out.1
              obtain ⟨m, hm⟩ : ∃ m, m = a + bs := ⟨_, rfl⟩
              have z3 : IntKind.i64.wrap ((a : Int) + (bs : Int)) = (m : Int) := by rw [IntKind.wrap_i64]; omega
              by_cases hms : m < sz
              · have hmz : (m : Int) < (sz : Int) := by omega
                have q1 : Blk L di a m := by
                  have h := J.out.2.2.2.1 a (Nat.le_refl _) (by omega) (by rw [Nat.sub_self]; exact Nat.dvd_zero _)
                  rw [Nat.min_eq_left (by omega)] at h
                  rw [hm]; exact h
                have q2 : Blk L di m sz := by
                  have h := J.out.2.2.2.1 m (by omega) (by omega) (by rw [show m - a = bs by omega]; exact Nat.dvd_refl _)
                  rw [Nat.min_eq_right (by omega)] at h
                  exact h
                have hr := symMerge_any L enc cf g cb blk off cap sz d0 w0 HT.out h0 (sz - a) a m sz di wr (Nat.le_refl _) (by omega) hms (Nat.le_refl _) hdi S1.out q1.1 q2.1 (q1.cross q2)
                have HQ := Lib.hid (And.intro q1 q2); have HM := Lib.hid (And.intro hm hbe)
                clear q1 q2 hm hbe hb2
                go_wp2_with fail
                refine hr.mono ?_
                rintro e' w3 ⟨rfl, d3, hP, hS, S2⟩
                have S4 : Aside (SW enc w0 blk off d3 w3) := S2
                have HPS := Lib.hid (And.intro hP hS)
                clear hr hP hS S2 S1 z3
                go_wp2
                go_roundg (sz - b2)
                case measure => have := HB2.out; omega
                case rel =>
                  obtain ⟨hm, hbe⟩ := HM.out
                  have hb2 := HB2.out
                  obtain ⟨j1, j2, j3, j4, j5⟩ := J.out
                  obtain ⟨hP, hS⟩ := HPS.out
                  refine ⟨b2, d3, rfl, by omega, by omega, by omega, hP.1.trans hdi, S4, Lib.hid ⟨?_, permIn_trans _ _ _ 0 sz j5 (permIn_mono di d3 a sz 0 sz (by omega) (Nat.le_refl _) (by omega) hP)⟩⟩
                  refine Done.runs (by omega) j2 (fun lo h1 h2 => ⟨(j3 lo h1 h2).1, (j3 lo h1 h2).2.same fun k k1 k2 => hP.2.1 k (Or.inl (by have := (j3 lo h1 h2).1; omega))⟩) hal (by omega) fun _ => ?_
                  exact HQ.out.1.merged HQ.out.2 (by omega) (by omega) (by omega) hP hS
              · have hmz : ¬ (m : Int) < (sz : Int) := by omega
                have HM := Lib.hid (And.intro hm hbe)
                clear hm hbe hb2
                go_wp2
                go_roundg (sz - b2)
                case measure => have := HB2.out; omega
                case rel =>
                  obtain ⟨hm, hbe⟩ := HM.out
                  have hb2 := HB2.out
                  obtain ⟨j1, j2, j3, j4, j5⟩ := J.out
                  refine ⟨b2, di, rfl, by omega, by omega, by omega, hdi, S1, Lib.hid ⟨?_, j5⟩⟩
                  refine Done.runs (by omega) j2 j3 hal (by omega) fun h => ?_
                  have h' := j4 a (Nat.le_refl _) h (by rw [Nat.sub_self]; exact Nat.dvd_zero _)
                  rw [Nat.min_eq_right (by omega)] at h'
                  exact h'
        · have hlz : ¬ (bs : Int) < (sz : Int) := by omega
          go_wp2
          go_end0
          refine ⟨rfl, dk, I.out.2, ?_, S1.out⟩
          by_cases hz : 0 < sz
          · have h := I.out.1 0 (Nat.le_refl _) hz (Nat.dvd_zero _)
            rw [Nat.min_eq_right (by omega)] at h
            exact h.1
          · intro i j h1 h2 h3
            omega
end Go.Proofs.YtdoooffmaokaeaaGreatDoor.StableB
end
