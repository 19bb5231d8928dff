-- written by a program of this project (print2)
import Derived.Test.YtclgeomjnpejmaaPSuffixFirstx0
import Derived.Test.YtclgeomjnpejmaaPSuffixFirstx1
import Derived.Test.YtclgeomjnpejmaaPSuffixFirstx2
namespace Go.Proofs.Ytclgeomjnpejmaa.PSuffixFirst
open Go.RowKit Go.Proofs.YtclgeomjnpejmaaW.PrintMine Go.Proofs.YtclgeomjnpejmaaW.PrintWords Go.Proofs.YtclgeomjnpejmaaW.PrintLast Go.Proofs.YtclgeomjnpejmaaW.PrintMore
attribute [local go_sem] max2_int min2_int max_two min_two max_three min_three max_four min_four   -- for this text's walks alone
set_option linter.unusedVariables false
set_option linter.unusedSimpArgs false

section
attribute [local go_sem] i64_w
/-! ### haystacklaw17_SuffixFirst: function 3 -/
mutual
def haystacklaw17_SuffixFirst.j0 : Nat → List Int → List Int → Bool → Option (Bool)
  | 0, _, _, _ => none
  | k + 1, x0, x1, x22 => if x22 = true then ((haystacklaw17_heads.f k).bind fun t165 => (some t165)) else ((suffix_Array.f x0).bind fun bt166 => (if bt166.2 = 0 then (if (bt166.1.length : Int) = (wrap64 ((x0.length : Int) + 1)) then (if 0 < (bt166.1.length : Int) then (haystacklaw17_SuffixFirst.j1 k x0 x1 bt166.1 ((rd bt166.1 0) != (x0.length : Int))) else (none)) else (haystacklaw17_SuffixFirst.j1 k x0 x1 bt166.1 true)) else (haystacklaw17_SuffixFirst.j1 k x0 x1 bt166.1 true)))
def haystacklaw17_SuffixFirst.j1 : Nat → List Int → List Int → List Int → Bool → Option (Bool)
  | 0, _, _, _, _ => none
  | k + 1, x0, x1, x5, x46 => if x46 = true then (some false) else (haystacklaw17_SuffixFirst.l0 k x0 x1 x5 0 0 false 0)
def haystacklaw17_SuffixFirst.l0 : Nat → List Int → List Int → List Int → Int → Int → Bool → Int → Option (Bool)
  | 0, _, _, _, _, _, _, _ => none
  | k + 1, x0, x1, x5, x7, x8, x9, x10 => if x10 < (x5.length : Int) then (if 0 ≤ x10 then (if (rd x5 x10) < 0 then (haystacklaw17_SuffixFirst.j3 k x0 x1 x5 x7 x8 x9 x10 true) else (haystacklaw17_SuffixFirst.j3 k x0 x1 x5 x7 x8 x9 x10 (decide ((rd x5 x10) > (x0.length : Int))))) else (none)) else (haystacklaw17_SuffixFirst.l1 k x0 x1 x7 x8 0 0)
def haystacklaw17_SuffixFirst.j3 : Nat → List Int → List Int → List Int → Int → Int → Bool → Int → Bool → Option (Bool)
  | 0, _, _, _, _, _, _, _, _ => none
  | k + 1, x0, x1, x5, x7, x8, x9, x10, x66 => if x66 = true then (some false) else (if 0 ≤ x10 then (if x10 < (x5.length : Int) then (if 0 ≤ (rd x5 x10) then (if (rd x5 x10) ≤ (x0.length : Int) then (if ((x0.drop ((rd x5 x10) : Int).toNat).length : Int) ≥ (x1.length : Int) then (if 0 ≤ (x1.length : Int) then (if (x1.length : Int) ≤ ((x0.drop ((rd x5 x10) : Int).toNat).length : Int) then (haystacklaw17_SuffixFirst.j4 k x0 x1 x5 x7 x8 x9 x10 ((strOfNums ((x0.drop ((rd x5 x10) : Int).toNat).take ((x1.length : Int) : Int).toNat)).toList == (strOfNums x1).toList)) else (none)) else (none)) else (haystacklaw17_SuffixFirst.j4 k x0 x1 x5 x7 x8 x9 x10 false)) else (none)) else (none)) else (none)) else (none))
def haystacklaw17_SuffixFirst.j4 : Nat → List Int → List Int → List Int → Int → Int → Bool → Int → Bool → Option (Bool)
  | 0, _, _, _, _, _, _, _, _ => none
  | k + 1, x0, x1, x5, x7, x8, x9, x10, x12 => if x12 = true then (if x9 = true then (haystacklaw17_SuffixFirst.l0 k x0 x1 x5 (wrap64 (x7 + 1)) x8 x12 (wrap64 (x10 + 1))) else (haystacklaw17_SuffixFirst.l0 k x0 x1 x5 (wrap64 (x7 + 1)) (wrap64 (x8 + 1)) x12 (wrap64 (x10 + 1)))) else (haystacklaw17_SuffixFirst.l0 k x0 x1 x5 x7 x8 x12 (wrap64 (x10 + 1)))
def haystacklaw17_SuffixFirst.l1 : Nat → List Int → List Int → Int → Int → Int → Int → Option (Bool)
  | 0, _, _, _, _, _, _ => none
  | k + 1, x0, x1, x7, x8, x13, x14 => if (wrap64 (x14 + (x1.length : Int))) ≤ (x0.length : Int) then (if 0 ≤ x14 then (if x14 ≤ (wrap64 (x14 + (x1.length : Int))) then (if (strOfNums ((x0.take ((wrap64 (x14 + (x1.length : Int))) : Int).toNat).drop (x14 : Int).toNat)).toList = (strOfNums x1).toList then (haystacklaw17_SuffixFirst.l1 k x0 x1 x7 x8 (wrap64 (x13 + 1)) (wrap64 (x14 + 1))) else (haystacklaw17_SuffixFirst.l1 k x0 x1 x7 x8 x13 (wrap64 (x14 + 1)))) else (none)) else (none)) else (if x8 ≤ 1 then (if x7 = x13 then ((haystacklaw17_heads.f k).bind fun t177 => (some t177)) else (some false)) else (some false))
end
def haystacklaw17_SuffixFirst.f (k : Nat) (l0 : List Int) (l1 : List Int) : Option (Bool) := if (l0.length : Int) > 600 then (haystacklaw17_SuffixFirst.j0 k l0 l1 true) else (haystacklaw17_SuffixFirst.j0 k l0 l1 (decide ((l1.length : Int) > 20)))
theorem haystacklaw17_SuffixFirst.mono_l : ∀ k, (∀ y0 y1 y2, LeO (haystacklaw17_SuffixFirst.j0 k y0 y1 y2) (haystacklaw17_SuffixFirst.j0 (k + 1) y0 y1 y2)) ∧ (∀ y0 y1 y2 y3, LeO (haystacklaw17_SuffixFirst.j1 k y0 y1 y2 y3) (haystacklaw17_SuffixFirst.j1 (k + 1) y0 y1 y2 y3)) ∧ (∀ y0 y1 y2 y3 y4 y5 y6, LeO (haystacklaw17_SuffixFirst.l0 k y0 y1 y2 y3 y4 y5 y6) (haystacklaw17_SuffixFirst.l0 (k + 1) y0 y1 y2 y3 y4 y5 y6)) ∧ (∀ y0 y1 y2 y3 y4 y5 y6 y7, LeO (haystacklaw17_SuffixFirst.j3 k y0 y1 y2 y3 y4 y5 y6 y7) (haystacklaw17_SuffixFirst.j3 (k + 1) y0 y1 y2 y3 y4 y5 y6 y7)) ∧ (∀ y0 y1 y2 y3 y4 y5 y6 y7, LeO (haystacklaw17_SuffixFirst.j4 k y0 y1 y2 y3 y4 y5 y6 y7) (haystacklaw17_SuffixFirst.j4 (k + 1) y0 y1 y2 y3 y4 y5 y6 y7)) ∧ (∀ y0 y1 y2 y3 y4 y5, LeO (haystacklaw17_SuffixFirst.l1 k y0 y1 y2 y3 y4 y5) (haystacklaw17_SuffixFirst.l1 (k + 1) y0 y1 y2 y3 y4 y5))
  | 0 => ⟨fun _ _ _ r h => by simp [haystacklaw17_SuffixFirst.j0] at h, fun _ _ _ _ r h => by simp [haystacklaw17_SuffixFirst.j1] at h, fun _ _ _ _ _ _ _ r h => by simp [haystacklaw17_SuffixFirst.l0] at h, fun _ _ _ _ _ _ _ _ r h => by simp [haystacklaw17_SuffixFirst.j3] at h, fun _ _ _ _ _ _ _ _ r h => by simp [haystacklaw17_SuffixFirst.j4] at h, fun _ _ _ _ _ _ r h => by simp [haystacklaw17_SuffixFirst.l1] at h⟩
  | k + 1 => by
    obtain ⟨ih0, ih1, ih2, ih3, ih4, ih5⟩ := haystacklaw17_SuffixFirst.mono_l k
    refine ⟨?_, ?_, ?_, ?_, ?_, ?_⟩
    · intro y0 y1 y2
      unfold haystacklaw17_SuffixFirst.j0
      repeat' first
      | (with_reducible exact ih0 _ _ _)
      | (with_reducible exact ih1 _ _ _ _)
      | (with_reducible exact ih2 _ _ _ _ _ _ _)
      | (with_reducible exact ih3 _ _ _ _ _ _ _ _)
      | (with_reducible exact ih4 _ _ _ _ _ _ _ _)
      | (with_reducible exact ih5 _ _ _ _ _ _)
      | (with_reducible exact haystacklaw17_heads.mono _)
      | (with_reducible exact LeO.refl _)
      | (with_reducible exact LeO.none _)
      | (with_reducible refine LeO.ite ?_ ?_)
      | (with_reducible refine LeO.bind ?_ (fun _ => ?_))
      | exact ih0 _ _ _
      | exact ih1 _ _ _ _
      | exact ih2 _ _ _ _ _ _ _
      | exact ih3 _ _ _ _ _ _ _ _
      | exact ih4 _ _ _ _ _ _ _ _
      | exact ih5 _ _ _ _ _ _
      | exact haystacklaw17_heads.mono _
      | exact LeO.none _
      | refine LeO.ite ?_ ?_
      | refine LeO.bind ?_ (fun _ => ?_)
    · intro y0 y1 y2 y3
      unfold haystacklaw17_SuffixFirst.j1
      repeat' first
      | (with_reducible exact ih0 _ _ _)
      | (with_reducible exact ih1 _ _ _ _)
      | (with_reducible exact ih2 _ _ _ _ _ _ _)
      | (with_reducible exact ih3 _ _ _ _ _ _ _ _)
      | (with_reducible exact ih4 _ _ _ _ _ _ _ _)
      | (with_reducible exact ih5 _ _ _ _ _ _)
      | (with_reducible exact haystacklaw17_heads.mono _)
      | (with_reducible exact LeO.refl _)
      | (with_reducible exact LeO.none _)
      | (with_reducible refine LeO.ite ?_ ?_)
      | (with_reducible refine LeO.bind ?_ (fun _ => ?_))
      | exact ih0 _ _ _
      | exact ih1 _ _ _ _
      | exact ih2 _ _ _ _ _ _ _
      | exact ih3 _ _ _ _ _ _ _ _
      | exact ih4 _ _ _ _ _ _ _ _
      | exact ih5 _ _ _ _ _ _
      | exact haystacklaw17_heads.mono _
      | exact LeO.none _
      | refine LeO.ite ?_ ?_
      | refine LeO.bind ?_ (fun _ => ?_)
    · intro y0 y1 y2 y3 y4 y5 y6
      unfold haystacklaw17_SuffixFirst.l0
      repeat' first
      | (with_reducible exact ih0 _ _ _)
      | (with_reducible exact ih1 _ _ _ _)
      | (with_reducible exact ih2 _ _ _ _ _ _ _)
      | (with_reducible exact ih3 _ _ _ _ _ _ _ _)
      | (with_reducible exact ih4 _ _ _ _ _ _ _ _)
      | (with_reducible exact ih5 _ _ _ _ _ _)
      | (with_reducible exact haystacklaw17_heads.mono _)
      | (with_reducible exact LeO.refl _)
      | (with_reducible exact LeO.none _)
      | (with_reducible refine LeO.ite ?_ ?_)
      | (with_reducible refine LeO.bind ?_ (fun _ => ?_))
      | exact ih0 _ _ _
      | exact ih1 _ _ _ _
      | exact ih2 _ _ _ _ _ _ _
      | exact ih3 _ _ _ _ _ _ _ _
      | exact ih4 _ _ _ _ _ _ _ _
      | exact ih5 _ _ _ _ _ _
      | exact haystacklaw17_heads.mono _
      | exact LeO.none _
      | refine LeO.ite ?_ ?_
      | refine LeO.bind ?_ (fun _ => ?_)
    · intro y0 y1 y2 y3 y4 y5 y6 y7
      unfold haystacklaw17_SuffixFirst.j3
      repeat' first
      | (with_reducible exact ih0 _ _ _)
      | (with_reducible exact ih1 _ _ _ _)
      | (with_reducible exact ih2 _ _ _ _ _ _ _)
      | (with_reducible exact ih3 _ _ _ _ _ _ _ _)
      | (with_reducible exact ih4 _ _ _ _ _ _ _ _)
      | (with_reducible exact ih5 _ _ _ _ _ _)
      | (with_reducible exact haystacklaw17_heads.mono _)
      | (with_reducible exact LeO.refl _)
      | (with_reducible exact LeO.none _)
      | (with_reducible refine LeO.ite ?_ ?_)
      | (with_reducible refine LeO.bind ?_ (fun _ => ?_))
      | exact ih0 _ _ _
      | exact ih1 _ _ _ _
      | exact ih2 _ _ _ _ _ _ _
      | exact ih3 _ _ _ _ _ _ _ _
      | exact ih4 _ _ _ _ _ _ _ _
      | exact ih5 _ _ _ _ _ _
      | exact haystacklaw17_heads.mono _
      | exact LeO.none _
      | refine LeO.ite ?_ ?_
      | refine LeO.bind ?_ (fun _ => ?_)
    · intro y0 y1 y2 y3 y4 y5 y6 y7
      unfold haystacklaw17_SuffixFirst.j4
      repeat' first
      | (with_reducible exact ih0 _ _ _)
      | (with_reducible exact ih1 _ _ _ _)
      | (with_reducible exact ih2 _ _ _ _ _ _ _)
      | (with_reducible exact ih3 _ _ _ _ _ _ _ _)
      | (with_reducible exact ih4 _ _ _ _ _ _ _ _)
      | (with_reducible exact ih5 _ _ _ _ _ _)
      | (with_reducible exact haystacklaw17_heads.mono _)
      | (with_reducible exact LeO.refl _)
      | (with_reducible exact LeO.none _)
      | (with_reducible refine LeO.ite ?_ ?_)
      | (with_reducible refine LeO.bind ?_ (fun _ => ?_))
      | exact ih0 _ _ _
      | exact ih1 _ _ _ _
      | exact ih2 _ _ _ _ _ _ _
      | exact ih3 _ _ _ _ _ _ _ _
      | exact ih4 _ _ _ _ _ _ _ _
      | exact ih5 _ _ _ _ _ _
      | exact haystacklaw17_heads.mono _
      | exact LeO.none _
      | refine LeO.ite ?_ ?_
      | refine LeO.bind ?_ (fun _ => ?_)
    · intro y0 y1 y2 y3 y4 y5
      unfold haystacklaw17_SuffixFirst.l1
      repeat' first
      | (with_reducible exact ih0 _ _ _)
      | (with_reducible exact ih1 _ _ _ _)
      | (with_reducible exact ih2 _ _ _ _ _ _ _)
      | (with_reducible exact ih3 _ _ _ _ _ _ _ _)
      | (with_reducible exact ih4 _ _ _ _ _ _ _ _)
      | (with_reducible exact ih5 _ _ _ _ _ _)
      | (with_reducible exact haystacklaw17_heads.mono _)
      | (with_reducible exact LeO.refl _)
      | (with_reducible exact LeO.none _)
      | (with_reducible refine LeO.ite ?_ ?_)
      | (with_reducible refine LeO.bind ?_ (fun _ => ?_))
      | exact ih0 _ _ _
      | exact ih1 _ _ _ _
      | exact ih2 _ _ _ _ _ _ _
      | exact ih3 _ _ _ _ _ _ _ _
      | exact ih4 _ _ _ _ _ _ _ _
      | exact ih5 _ _ _ _ _ _
      | exact haystacklaw17_heads.mono _
      | exact LeO.none _
      | refine LeO.ite ?_ ?_
      | refine LeO.bind ?_ (fun _ => ?_)
theorem haystacklaw17_SuffixFirst.mono : ∀ a0 a1 k, LeO (haystacklaw17_SuffixFirst.f k a0 a1) (haystacklaw17_SuffixFirst.f (k + 1) a0 a1) := by
  intro a0 a1 k
  obtain ⟨ih0, ih1, ih2, ih3, ih4, ih5⟩ := haystacklaw17_SuffixFirst.mono_l k
  unfold haystacklaw17_SuffixFirst.f
  repeat' first
      | (with_reducible exact ih0 _ _ _)
      | (with_reducible exact ih1 _ _ _ _)
      | (with_reducible exact ih2 _ _ _ _ _ _ _)
      | (with_reducible exact ih3 _ _ _ _ _ _ _ _)
      | (with_reducible exact ih4 _ _ _ _ _ _ _ _)
      | (with_reducible exact ih5 _ _ _ _ _ _)
      | (with_reducible exact haystacklaw17_heads.mono _)
      | (with_reducible exact LeO.refl _)
      | (with_reducible exact LeO.none _)
      | (with_reducible refine LeO.ite ?_ ?_)
      | (with_reducible refine LeO.bind ?_ (fun _ => ?_))
      | exact ih0 _ _ _
      | exact ih1 _ _ _ _
      | exact ih2 _ _ _ _ _ _ _
      | exact ih3 _ _ _ _ _ _ _ _
      | exact ih4 _ _ _ _ _ _ _ _
      | exact ih5 _ _ _ _ _ _
      | exact haystacklaw17_heads.mono _
      | exact LeO.none _
      | refine LeO.ite ?_ ?_
      | refine LeO.bind ?_ (fun _ => ?_)
set_option maxHeartbeats 8000000 in
set_option maxRecDepth 100000 in
theorem haystacklaw17_SuffixFirst.calls (k : Nat) (A0 : Option Addr) (c0 : Nat) (l0 : List Int) (A1 : Option Addr) (c1 : Nat) (l1 : List Int) (r : Bool) (w : World) (hr0 : Kd.C (Kd.int .u8) w A0 l0.length l0) (hc0 : l0.length ≤ c0) (hr1 : Kd.C (Kd.int .u8) w A1 l1.length l1) (hc1 : l1.length ≤ c1) (h : haystacklaw17_SuffixFirst.f k l0 l1 = some r) :
    Calls Try.prog 3 #[.slice A0 l0.length c0, .slice A1 l1.length c1] w fun e w' => e = .returned (.bool r) ∧ Below w.heap.size w w' := by
  have HR0 := Aside0.mk hr0
  have HC0 := Aside0.mk hc0
  clear hr0 hc0
  have HR1 := Aside0.mk hr1
  have HC1 := Aside0.mk hc1
  clear hr1 hc1
  have HB := Aside0.mk (Below.refl w.heap.size w)
  have H : (if (l0.length : Int) > 600 then (haystacklaw17_SuffixFirst.j0 k l0 l1 true) else (haystacklaw17_SuffixFirst.j0 k l0 l1 (decide ((l1.length : Int) > 20)))) = some r := h
  clear h
  have HC3 := Aside0.mk H
  clear H
  go_enter Try.func3, Try.ntmps3
  go_upto_region 1 with (fail)
  repeat (go_quiet (fail); go_upto_region 1 with (fail))
  go_cut [22] (fun v22 wc => ∃ (kq : Nat) (x22_2 : Bool), v22 = .bool x22_2 ∧ Aside0 (haystacklaw17_SuffixFirst.j0 kq l0 l1 x22_2 = some r) ∧ Aside0 (kq ≤ k) ∧ Aside0 (Below w.heap.size w wc))
  case first =>
    have H := HC3.out
    clear HC3
    by_cases c4 : (l0.length : Int) > 600
    · rw [if_pos c4] at H
      have c4b0 : decide (600 < (l0.length : Int)) = true := decide_eq_true c4
      have c4b1 : decide (600 < l0.length) = true := decide_eq_true (by omega)
      clear c4
      (first | rw [c4b0] | (simp only [i64_w, i32_w]; rw [c4b0]) | skip)
      have H' := Aside0.mk H
      clear H
      go_wp2
      repeat (go_quiet (fail); try go_wp2)
      go_meet
      case rel => exact ⟨_, (true), (by first | rfl | (simp; done) | (simp [*]; done)), H', ⟨by first | omega | exact Nat.le_refl _⟩, ⟨by repeat (first | (with_reducible first | exact HB.out | apply below_alloc | apply pw_below_drewN | apply below_drew1) | exact HB.out)⟩⟩
    · rw [if_neg c4] at H
      have c4b0 : decide (600 < (l0.length : Int)) = false := decide_eq_false c4
      have c4b1 : decide (600 < l0.length) = false := decide_eq_false (by omega)
      clear c4
      (first | rw [c4b0] | (simp only [i64_w, i32_w]; rw [c4b0]) | skip)
      have H' := Aside0.mk H
      clear H
      go_wp2
      repeat (go_quiet (fail); try go_wp2)
      go_meet
      case rel => exact ⟨_, (decide ((l1.length : Int) > 20)), (by first | rfl | (simp; done) | (simp [*]; done)), H', ⟨by first | omega | exact Nat.le_refl _⟩, ⟨by repeat (first | (with_reducible first | exact HB.out | apply below_alloc | apply pw_below_drewN | apply below_drew1) | exact HB.out)⟩⟩
  case rest =>
    clear HC3
    try clear c1
    try clear p2
    try clear c3
    try clear c4
    try clear c4b0
    try clear c4b1
    obtain ⟨kq, x22_2, rfl, HA, HJ2, HB⟩ := hcut
    cases kq with
    | zero => exact absurd HA.out (by simp [haystacklaw17_SuffixFirst.j0])
    | succ kj2 =>
      have H := HA.out
      clear HA
      simp only [haystacklaw17_SuffixFirst.j0] at H
      by_cases c5 : x22_2 = true
      · subst c5
        have H1 : ((haystacklaw17_heads.f kj2).bind fun t165 => (some t165)) = some r := by rw [if_pos rfl] at H; exact H
        clear H
        have H := H1
        clear H1
        replace H := Option.bind_eq_some_iff.mp H
        obtain ⟨t165, A60, H⟩ := H
        replace H : (some t165) = some r := H
        have A6 := Aside0.mk A60
        clear A60
        obtain rfl := Option.some.inj H
        go_wp2_with (first | (go_at_call 8; (with_reducible refine (haystacklaw17_heads.calls kj2  t165 _ A6.out).mono ?_); rintro e w7 ⟨rfl, hb⟩; have n0_ := Aside0.mk (below_step (by repeat (first | (with_reducible first | exact HB.out | apply below_alloc | apply pw_below_drewN | apply below_drew1) | exact HB.out)) hb); clear HB; have HB := n0_; clear n0_; (try clear hb); (try clear hb2); (try clear hk); (try clear hi)))
        repeat (go_quiet (first | (go_at_call 8; (with_reducible refine (haystacklaw17_heads.calls kj2  t165 _ A6.out).mono ?_); rintro e w7 ⟨rfl, hb⟩; have n0_ := Aside0.mk (below_step (by repeat (first | (with_reducible first | exact HB.out | apply below_alloc | apply pw_below_drewN | apply below_drew1) | exact HB.out)) hb); clear HB; have HB := n0_; clear n0_; (try clear hb); (try clear hb2); (try clear hk); (try clear hi))); try go_wp2_with (first | (go_at_call 8; (with_reducible refine (haystacklaw17_heads.calls kj2  t165 _ A6.out).mono ?_); rintro e w7 ⟨rfl, hb⟩; have n0_ := Aside0.mk (below_step (by repeat (first | (with_reducible first | exact HB.out | apply below_alloc | apply pw_below_drewN | apply below_drew1) | exact HB.out)) hb); clear HB; have HB := n0_; clear n0_; (try clear hb); (try clear hb2); (try clear hk); (try clear hi))))
        go_ret
        exact ⟨by first | rfl | (simp [errW_none, errW_some] <;> rfl) | (simp [*, errW_none, errW_some] <;> rfl), by repeat (first | (with_reducible first | exact HB.out | apply below_alloc | apply pw_below_drewN | apply below_drew1) | exact HB.out)⟩
      · replace c5 := Bool.eq_false_iff.mpr c5
        subst c5
        have H1 : ((suffix_Array.f l0).bind fun bt166 => (if bt166.2 = 0 then (if (bt166.1.length : Int) = (wrap64 ((l0.length : Int) + 1)) then (if 0 < (bt166.1.length : Int) then (haystacklaw17_SuffixFirst.j1 kj2 l0 l1 bt166.1 ((rd bt166.1 0) != (l0.length : Int))) else (none)) else (haystacklaw17_SuffixFirst.j1 kj2 l0 l1 bt166.1 true)) else (haystacklaw17_SuffixFirst.j1 kj2 l0 l1 bt166.1 true))) = some r := by rw [if_neg (show ¬ (false = true) by decide)] at H; exact H
        clear H
        have H := H1
        clear H1
        replace H := Option.bind_eq_some_iff.mp H
        obtain ⟨⟨t166, t167⟩, A80, H⟩ := H
        replace H : (if t167 = 0 then (if (t166.length : Int) = (wrap64 ((l0.length : Int) + 1)) then (if 0 < (t166.length : Int) then (haystacklaw17_SuffixFirst.j1 kj2 l0 l1 t166 ((rd t166 0) != (l0.length : Int))) else (none)) else (haystacklaw17_SuffixFirst.j1 kj2 l0 l1 t166 true)) else (haystacklaw17_SuffixFirst.j1 kj2 l0 l1 t166 true)) = some r := H
        have A8 := Aside0.mk A80
        clear A80
        have HC9 := Aside0.mk H
        clear H
        go_upto_region 4 with (first | (go_at_call 9; (with_reducible refine (suffix_Array.calls _ _ l0 t166 t167 _ ?side1 ?side2 A8.out).mono ?_); (case side1 => repeat (first | exact (Kd.C_below HR0.out HB.out) | (with_reducible refine Kd.C_alloc ?_ _) | (with_reducible refine Kd.C_drewN ?_ _) | (with_reducible refine Kd.C_drew ?_))); (case side2 => exact HC0.out); rintro e w10 ⟨v168, rfl, ho0, hb⟩; have n0_ := Aside0.mk (Kd.R_lower ho0 (below_size (by repeat (first | (with_reducible first | exact HB.out | apply below_alloc | apply pw_below_drewN | apply below_drew1) | exact HB.out)))); have n1_ := Aside0.mk (below_step (by repeat (first | (with_reducible first | exact HB.out | apply below_alloc | apply pw_below_drewN | apply below_drew1) | exact HB.out)) hb); clear HB; have HO169 := n0_; have HB := n1_; clear n0_ n1_; (try clear hb); (try clear hb2); (try clear hk); (try clear hi); (try clear ho0)))
        repeat (go_quiet (first | (go_at_call 9; (with_reducible refine (suffix_Array.calls _ _ l0 t166 t167 _ ?side1 ?side2 A8.out).mono ?_); (case side1 => repeat (first | exact (Kd.C_below HR0.out HB.out) | (with_reducible refine Kd.C_alloc ?_ _) | (with_reducible refine Kd.C_drewN ?_ _) | (with_reducible refine Kd.C_drew ?_))); (case side2 => exact HC0.out); rintro e w10 ⟨v168, rfl, ho0, hb⟩; have n0_ := Aside0.mk (Kd.R_lower ho0 (below_size (by repeat (first | (with_reducible first | exact HB.out | apply below_alloc | apply pw_below_drewN | apply below_drew1) | exact HB.out)))); have n1_ := Aside0.mk (below_step (by repeat (first | (with_reducible first | exact HB.out | apply below_alloc | apply pw_below_drewN | apply below_drew1) | exact HB.out)) hb); clear HB; have HO169 := n0_; have HB := n1_; clear n0_ n1_; (try clear hb); (try clear hb2); (try clear hk); (try clear hi); (try clear ho0))); go_upto_region 4 with (first | (go_at_call 9; (with_reducible refine (suffix_Array.calls _ _ l0 t166 t167 _ ?side1 ?side2 A8.out).mono ?_); (case side1 => repeat (first | exact (Kd.C_below HR0.out HB.out) | (with_reducible refine Kd.C_alloc ?_ _) | (with_reducible refine Kd.C_drewN ?_ _) | (with_reducible refine Kd.C_drew ?_))); (case side2 => exact HC0.out); rintro e w10 ⟨v168, rfl, ho0, hb⟩; have n0_ := Aside0.mk (Kd.R_lower ho0 (below_size (by repeat (first | (with_reducible first | exact HB.out | apply below_alloc | apply pw_below_drewN | apply below_drew1) | exact HB.out)))); have n1_ := Aside0.mk (below_step (by repeat (first | (with_reducible first | exact HB.out | apply below_alloc | apply pw_below_drewN | apply below_drew1) | exact HB.out)) hb); clear HB; have HO169 := n0_; have HB := n1_; clear n0_ n1_; (try clear hb); (try clear hb2); (try clear hk); (try clear hi); (try clear ho0))))
        (try simp only [Act.put, List.setIfInBounds_toArray, List.set_cons_zero, List.set_cons_succ])
        go_cut [46] (fun v46 wc => ∃ (kq : Nat) (x46_8 : Bool), v46 = .bool x46_8 ∧ Aside0 (haystacklaw17_SuffixFirst.j1 kq l0 l1 t166 x46_8 = some r) ∧ Aside0 (kq ≤ kj2) ∧ Aside0 (Kd.R (Kd.int .i64) 3 wc w.heap.size (fun _ => True) v168 t166) ∧ Aside0 (Below w.heap.size w wc))
        case first =>
          have H := HC9.out
          clear HC9
          by_cases c11 : t167 = 0
          · rw [if_pos c11] at H
            have c11b0 : (t167 == 0) = true := beq_iff_eq.mpr c11
            have c11b1 : (t167 != 0) = false := bne_eq_false_iff_eq.mpr c11
            clear c11
            (first | rw [c11b0] | (simp only [i64_w, i32_w]; rw [c11b0]) | skip)
            by_cases c12 : (t166.length : Int) = (wrap64 ((l0.length : Int) + 1))
            · rw [if_pos c12] at H
              have c12b0 : ((t166.length : Int) == (wrap64 ((l0.length : Int) + 1))) = true := beq_iff_eq.mpr c12
              have c12b1 : ((t166.length : Int) != (wrap64 ((l0.length : Int) + 1))) = false := bne_eq_false_iff_eq.mpr c12
              clear c12
              by_cases c13 : 0 < (t166.length : Int)
              · rw [if_pos c13] at H
                have c13b0 : decide (0 < (t166.length : Int)) = true := decide_eq_true c13
                have c13b1 : decide (0 < t166.length) = true := decide_eq_true (by omega)
                clear c13
                have H' := Aside0.mk H
                clear H
                obtain ⟨Ao14, co14, eo14⟩ := Kd.R_slice HO169.out
                subst eo14
                have p170 : 0 ≤ (0 : Int) := (by omega)
                have q170 : 0 < (t166.length : Int) := of_decide_eq_true (by first | (with_reducible assumption) | assumption)
                obtain ⟨ad170, e170, hx170_0⟩ := Kd.at_int (Kd.R_reads' HO169.out).2.2 0 p170 q170
                cases e170
                have qi170 : (0 < t166.length) = True := eq_true (by omega)
                (try rw [show ((0 : Int)).toNat = 0 from rfl] at hx170_0)
                (try rw [Addr.add_zero'] at hx170_0)
                replace p170 := eq_true p170
                replace q170 := eq_true q170
                go_wp2
                repeat (go_quiet (fail); try go_wp2)
                go_meet
                case rel => exact ⟨_, (((rd t166 0) != (l0.length : Int))), (by first | rfl | (simp; done) | (simp [*]; done)), H', ⟨by have := HJ2.out; first | omega | exact Nat.le_refl _⟩, ⟨by (with_reducible repeat (first | apply Kd.R_alloc | apply Kd.R_drewN | apply Kd.R_drew)); exact HO169.out⟩, ⟨by repeat (first | (with_reducible first | exact HB.out | apply below_alloc | apply pw_below_drewN | apply below_drew1) | exact HB.out)⟩⟩
              · rw [if_neg c13] at H
                exact absurd H (by simp)
            · rw [if_neg c12] at H
              have c12b0 : ((t166.length : Int) == (wrap64 ((l0.length : Int) + 1))) = false := beq_eq_false_iff_ne.mpr c12
              have c12b1 : ((t166.length : Int) != (wrap64 ((l0.length : Int) + 1))) = true := bne_iff_ne.mpr c12
              have H' := Aside0.mk H
              clear H
              obtain ⟨Ao15, co15, eo15⟩ := Kd.R_slice HO169.out
              subst eo15
              go_wp2
              repeat (go_quiet (fail); try go_wp2)
              go_meet
              case rel => exact ⟨_, (true), (by first | rfl | (simp; done) | (simp [*]; done)), H', ⟨by have := HJ2.out; first | omega | exact Nat.le_refl _⟩, ⟨by (with_reducible repeat (first | apply Kd.R_alloc | apply Kd.R_drewN | apply Kd.R_drew)); exact HO169.out⟩, ⟨by repeat (first | (with_reducible first | exact HB.out | apply below_alloc | apply pw_below_drewN | apply below_drew1) | exact HB.out)⟩⟩
          · rw [if_neg c11] at H
            have c11b0 : (t167 == 0) = false := beq_eq_false_iff_ne.mpr c11
            have c11b1 : (t167 != 0) = true := bne_iff_ne.mpr c11
            (first | rw [c11b0] | (simp only [i64_w, i32_w]; rw [c11b0]) | skip)
            have H' := Aside0.mk H
            clear H
            go_wp2
            repeat (go_quiet (fail); try go_wp2)
            go_meet
            case rel => exact ⟨_, (true), (by first | rfl | (simp; done) | (simp [*]; done)), H', ⟨by have := HJ2.out; first | omega | exact Nat.le_refl _⟩, ⟨by (with_reducible repeat (first | apply Kd.R_alloc | apply Kd.R_drewN | apply Kd.R_drew)); exact HO169.out⟩, ⟨by repeat (first | (with_reducible first | exact HB.out | apply below_alloc | apply pw_below_drewN | apply below_drew1) | exact HB.out)⟩⟩
        case rest =>
          clear HC9
          try clear c1
          try clear p1
          try clear q1
          try clear hx1
          try clear qi1
          try clear p2
          try clear c3
          try clear c4
          try clear c4b0
          try clear c4b1
          try clear c5
          try clear p6
          try clear c11
          try clear c11b0
          try clear c11b1
          try clear c12
          try clear c12b0
          try clear c12b1
          try clear c13
          try clear c13b0
          try clear c13b1
          try clear hx170_0
          try clear p170
          try clear p2
          try clear q170
          obtain ⟨kq, x46_8, rfl, HA, HJ8, HO_5, HB⟩ := hcut
          cases kq with
          | zero => exact absurd HA.out (by simp [haystacklaw17_SuffixFirst.j1])
          | succ kj8 =>
            have H := HA.out
            clear HA
            simp only [haystacklaw17_SuffixFirst.j1] at H
            by_cases c16 : x46_8 = true
            · subst c16
              have H1 : (some false) = some r := by rw [if_pos rfl] at H; exact H
              clear H
              have H := H1
              clear H1
              obtain rfl := Option.some.inj H
              go_wp2
              repeat (go_quiet (fail); try go_wp2)
              go_ret
              exact ⟨by first | rfl | (simp [errW_none, errW_some] <;> rfl) | (simp [*, errW_none, errW_some] <;> rfl), by repeat (first | (with_reducible first | exact HB.out | apply below_alloc | apply pw_below_drewN | apply below_drew1) | exact HB.out)⟩
            · replace c16 := Bool.eq_false_iff.mpr c16
              subst c16
              have H1 : (haystacklaw17_SuffixFirst.l0 kj8 l0 l1 t166 0 0 false 0) = some r := by rw [if_neg (show ¬ (false = true) by decide)] at H; exact H
              clear H
              have H := H1
              clear H1
              have H' := Aside0.mk H
              clear H
              go_wp2
              repeat (go_quiet (fail); try go_wp2)
              go_loopg [7, 8, 9, 10] kj8 (fun kq v7 v8 v9 v10 w' => ∃ (x7_3 : Int) (x8_3 : Int) (x9_3 : Bool) (x10_3 : Int), v7 = .int .i64 x7_3 ∧ v8 = .int .i64 x8_3 ∧ v9 = .bool x9_3 ∧ v10 = .int .i64 x10_3 ∧ Aside0 (haystacklaw17_SuffixFirst.l0 kq l0 l1 t166 x7_3 x8_3 x9_3 x10_3 = some r) ∧ Aside0 (kq ≤ kj8) ∧ Aside0 (Kd.R (Kd.int .i64) 3 w' w.heap.size (fun _ => True) v168 t166) ∧ Aside0 (Below w.heap.size w w'))
              case atStart => exact ⟨(0), (0), (false), (0), (by first | rfl | (simp; done) | (simp [*]; done)), (by first | rfl | (simp; done) | (simp [*]; done)), (by first | rfl | (simp; done) | (simp [*]; done)), (by first | rfl | (simp; done) | (simp [*]; done)), H', ⟨Nat.le_refl _⟩, ⟨by (with_reducible repeat (first | apply Kd.R_alloc | apply Kd.R_drewN | apply Kd.R_drew)); exact HO_5.out⟩, ⟨by repeat (first | (with_reducible first | exact HB.out | apply below_alloc | apply pw_below_drewN | apply below_drew1) | exact HB.out)⟩⟩
              case round =>
                clear H'
                try clear c1
                try clear p1
                try clear q1
                try clear hx1
                try clear qi1
                try clear p2
                try clear c3
                try clear c4
                try clear c4b0
                try clear c4b1
                try clear c5
                try clear p6
                try clear c11
                try clear c11b0
                try clear c11b1
                try clear c12
                try clear c12b0
                try clear c12b1
                try clear c13
                try clear c13b0
                try clear c13b1
                try clear c16
                try clear hx170_0
                try clear p1
                try clear p170
                try clear p2
                try clear p6
                try clear q1
                try clear q170
                obtain ⟨x7_3, x8_3, x9_3, x10_3, rfl, rfl, rfl, rfl, HA, HK3, HO_5, HB⟩ := hrel
                cases gk with
                | zero => exact absurd HA.out (by simp [haystacklaw17_SuffixFirst.l0])
                | succ k3 =>
                  have H := HA.out
                  clear HA
                  simp only [haystacklaw17_SuffixFirst.l0] at H
                  by_cases c17 : x10_3 < (t166.length : Int)
                  · rw [if_pos c17] at H
                    have c17b0 : decide (x10_3 < (t166.length : Int)) = true := decide_eq_true c17
                    clear c17
                    have HC18 := Aside0.mk H
                    clear H
                    obtain ⟨Ao19, co19, eo19⟩ := Kd.R_slice HO_5.out
                    subst eo19
                    go_upto_region 11 with (fail)
                    repeat (go_quiet (fail); go_upto_region 11 with (fail))
                    go_cut [66] (fun v66 wc => ∃ (kq : Nat) (x66_17 : Bool), v66 = .bool x66_17 ∧ Aside0 (haystacklaw17_SuffixFirst.j3 kq l0 l1 t166 x7_3 x8_3 x9_3 x10_3 x66_17 = some r) ∧ Aside0 (kq ≤ k3) ∧ Aside0 (Kd.R (Kd.int .i64) 3 wc w.heap.size (fun _ => True) (.slice Ao19 t166.length co19) t166) ∧ Aside0 (Below w.heap.size w wc))
                    case first =>
                      have H := HC18.out
                      clear HC18
                      by_cases c20 : 0 ≤ x10_3
                      · rw [if_pos c20] at H
                        have c20b0 : decide (0 ≤ x10_3) = true := decide_eq_true c20
                        clear c20
                        (first | rw [c20b0] | (simp only [i64_w, i32_w]; rw [c20b0]) | skip)
                        by_cases c21 : (rd t166 x10_3) < 0
                        · rw [if_pos c21] at H
                          have c21b0 : decide ((rd t166 x10_3) < 0) = true := decide_eq_true c21
                          clear c21
                          have H' := Aside0.mk H
                          clear H
                          have p171 : 0 ≤ (x10_3 : Int) := of_decide_eq_true (by first | (with_reducible assumption) | assumption)
                          have q171 : x10_3 < (t166.length : Int) := of_decide_eq_true (by first | (with_reducible assumption) | assumption)
                          obtain ⟨ad171, e171, hx171_0⟩ := Kd.at_int (Kd.R_reads' HO_5.out).2.2 x10_3 p171 q171
                          cases e171
                          replace p171 := eq_true p171
                          replace q171 := eq_true q171
                          go_wp2
                          repeat (go_quiet (fail); try go_wp2)
                          go_meet
                          case rel => exact ⟨_, (true), (by first | rfl | (simp; done) | (simp [*]; done)), H', ⟨by have := HJ2.out; have := HJ8.out; have := HK3.out; first | omega | exact Nat.le_refl _⟩, ⟨by (with_reducible repeat (first | apply Kd.R_alloc | apply Kd.R_drewN | apply Kd.R_drew)); exact HO_5.out⟩, ⟨by repeat (first | (with_reducible first | exact HB.out | apply below_alloc | apply pw_below_drewN | apply below_drew1) | exact HB.out)⟩⟩
                        · rw [if_neg c21] at H
                          have c21b0 : decide ((rd t166 x10_3) < 0) = false := decide_eq_false c21
                          clear c21
                          have H' := Aside0.mk H
                          clear H
                          have p171 : 0 ≤ (x10_3 : Int) := of_decide_eq_true (by first | (with_reducible assumption) | assumption)
                          have q171 : x10_3 < (t166.length : Int) := of_decide_eq_true (by first | (with_reducible assumption) | assumption)
                          obtain ⟨ad171, e171, hx171_0⟩ := Kd.at_int (Kd.R_reads' HO_5.out).2.2 x10_3 p171 q171
                          cases e171
                          replace p171 := eq_true p171
                          replace q171 := eq_true q171
                          have p172 : 0 ≤ (x10_3 : Int) := of_decide_eq_true (by first | (with_reducible assumption) | assumption)
                          have q172 : x10_3 < (t166.length : Int) := of_decide_eq_true (by first | (with_reducible assumption) | assumption)
                          obtain ⟨ad172, e172, hx172_0⟩ := Kd.at_int (Kd.R_reads' HO_5.out).2.2 x10_3 p172 q172
                          obtain rfl : ad171 = ad172 := (by injection e172)
                          replace p172 := eq_true p172
                          replace q172 := eq_true q172
                          go_wp2
                          repeat (go_quiet (fail); try go_wp2)
                          go_meet
                          case rel => exact ⟨_, (decide ((rd t166 x10_3) > (l0.length : Int))), (by first | rfl | (simp; done) | (simp [*]; done)), H', ⟨by have := HJ2.out; have := HJ8.out; have := HK3.out; first | omega | exact Nat.le_refl _⟩, ⟨by (with_reducible repeat (first | apply Kd.R_alloc | apply Kd.R_drewN | apply Kd.R_drew)); exact HO_5.out⟩, ⟨by repeat (first | (with_reducible first | exact HB.out | apply below_alloc | apply pw_below_drewN | apply below_drew1) | exact HB.out)⟩⟩
                      · rw [if_neg c20] at H
                        exact absurd H (by simp)
                    case rest =>
                      clear HC18
                      try clear c1
                      try clear p1
                      try clear q1
                      try clear hx1
                      try clear qi1
                      try clear c2
                      try clear p2
                      try clear c3
                      try clear c4
                      try clear c4b0
                      try clear c4b1
                      try clear c5
                      try clear p6
                      try clear c11
                      try clear c11b0
                      try clear c11b1
                      try clear c12
                      try clear c12b0
                      try clear c12b1
                      try clear c13
                      try clear c13b0
                      try clear c13b1
                      try clear c16
                      try clear c17
                      try clear c17b0
                      try clear p17
                      try clear q17
                      try clear hx17
                      try clear qi17
                      try clear c20
                      try clear c20b0
                      try clear c21
                      try clear c21b0
                      try clear hx170_0
                      try clear hx171_0
                      try clear hx172_0
                      try clear p1
                      try clear p170
                      try clear p171
                      try clear p172
                      try clear p2
                      try clear p6
                      try clear q1
                      try clear q170
                      try clear q171
                      try clear q172
                      obtain ⟨kq, x66_17, rfl, HA, HJ17, HO_5, HB⟩ := hcut
                      cases kq with
                      | zero => exact absurd HA.out (by simp [haystacklaw17_SuffixFirst.j3])
                      | succ kj17 =>
                        have H := HA.out
                        clear HA
                        simp only [haystacklaw17_SuffixFirst.j3] at H
                        by_cases c22 : x66_17 = true
                        · subst c22
                          have H1 : (some false) = some r := by rw [if_pos rfl] at H; exact H
                          clear H
                          have H := H1
                          clear H1
                          obtain rfl := Option.some.inj H
                          go_wp2
                          repeat (go_quiet (fail); try go_wp2)
                          go_ret
                          exact ⟨by first | rfl | (simp [errW_none, errW_some] <;> rfl) | (simp [*, errW_none, errW_some] <;> rfl), by repeat (first | (with_reducible first | exact HB.out | apply below_alloc | apply pw_below_drewN | apply below_drew1) | exact HB.out)⟩
                        · replace c22 := Bool.eq_false_iff.mpr c22
                          subst c22
                          have H1 : (if 0 ≤ x10_3 then (if x10_3 < (t166.length : Int) then (if 0 ≤ (rd t166 x10_3) then (if (rd t166 x10_3) ≤ (l0.length : Int) then (if ((l0.drop ((rd t166 x10_3) : Int).toNat).length : Int) ≥ (l1.length : Int) then (if 0 ≤ (l1.length : Int) then (if (l1.length : Int) ≤ ((l0.drop ((rd t166 x10_3) : Int).toNat).length : Int) then (haystacklaw17_SuffixFirst.j4 kj17 l0 l1 t166 x7_3 x8_3 x9_3 x10_3 ((strOfNums ((l0.drop ((rd t166 x10_3) : Int).toNat).take ((l1.length : Int) : Int).toNat)).toList == (strOfNums l1).toList)) else (none)) else (none)) else (haystacklaw17_SuffixFirst.j4 kj17 l0 l1 t166 x7_3 x8_3 x9_3 x10_3 false)) else (none)) else (none)) else (none)) else (none)) = some r := by rw [if_neg (show ¬ (false = true) by decide)] at H; exact H
                          clear H
                          have H := H1
                          clear H1
                          by_cases c23 : 0 ≤ x10_3
                          · rw [if_pos c23] at H
                            have c23b0 : decide (0 ≤ x10_3) = true := decide_eq_true c23
                            clear c23
                            by_cases c24 : x10_3 < (t166.length : Int)
                            · rw [if_pos c24] at H
                              have c24b0 : decide (x10_3 < (t166.length : Int)) = true := decide_eq_true c24
                              clear c24
                              by_cases c25 : 0 ≤ (rd t166 x10_3)
                              · rw [if_pos c25] at H
                                have c25b0 := eq_true c25
                                have c25b1 : decide (0 ≤ (rd t166 x10_3)) = true := decide_eq_true c25
                                clear c25
                                by_cases c26 : (rd t166 x10_3) ≤ (l0.length : Int)
                                · rw [if_pos c26] at H
                                  have c26b0 := eq_true c26
                                  have c26b1 : decide ((rd t166 x10_3) ≤ (l0.length : Int)) = true := decide_eq_true c26
                                  clear c26
                                  have HC27 := Aside0.mk H
                                  clear H
                                  have p173 : 0 ≤ (x10_3 : Int) := of_decide_eq_true (by first | (with_reducible assumption) | assumption)
                                  have q173 : x10_3 < (t166.length : Int) := of_decide_eq_true (by first | (with_reducible assumption) | assumption)
                                  obtain ⟨ad173, e173, hx173_0⟩ := Kd.at_int (Kd.R_reads' HO_5.out).2.2 x10_3 p173 q173
                                  cases e173
                                  replace p173 := eq_true p173
                                  replace q173 := eq_true q173
                                  obtain ⟨i028, hi028, _, hsz28, _⟩ := info_parts info5
                                  obtain ⟨A28, hcut28, hA28, hC28⟩ := print_drop_of (P := Try.prog) (Value.int .u8) 0 22 5 .i64 Try.underlying22 hi028 hsz28 A0 c0 l0 (rd t166 x10_3) (of_decide_eq_true (by first | (with_reducible assumption) | assumption)) (of_decide_eq_true (by first | (with_reducible assumption) | assumption)) HC0.out
                                  have HR174 := Aside0.mk (Kd.C_of_reads (h1 := fun _ => rfl) (hA28 _ (Kd.reads_of_C HR0.out)))
                                  have HC174 := Aside0.mk hC28
                                  (try (have HC174N_ := HC174.out; simp (disch := omega) only [List.length_drop, List.length_take, Int.toNat_natCast, Nat.min_eq_left] at HC174N_; have HC174NT_ := eq_true HC174N_))
                                  clear hA28 hC28 hi028 hsz28
                                  go_upto_region 14 with (fail)
                                  repeat (go_quiet (fail); go_upto_region 14 with (fail))
                                  go_cut [12] (fun v12 wc => ∃ (kq : Nat) (x12_26 : Bool), v12 = .bool x12_26 ∧ Aside0 (haystacklaw17_SuffixFirst.j4 kq l0 l1 t166 x7_3 x8_3 x9_3 x10_3 x12_26 = some r) ∧ Aside0 (kq ≤ kj17) ∧ Aside0 (Kd.R (Kd.int .i64) 3 wc w.heap.size (fun _ => True) (.slice (some ad173) t166.length co19) t166) ∧ Aside0 (Below w.heap.size w wc))
                                  case first =>
                                    have H := HC27.out
                                    clear HC27
                                    by_cases c29 : ((l0.drop ((rd t166 x10_3) : Int).toNat).length : Int) ≥ (l1.length : Int)
                                    · rw [if_pos c29] at H
                                      have c29b0 : decide ((l1.length : Int) ≤ ((l0.drop ((rd t166 x10_3) : Int).toNat).length : Int)) = true := decide_eq_true c29
                                      (try (have c29b0N_ := of_decide_eq_true c29b0; (try simp only [List.length_drop, List.length_take, Int.ofNat_le, Int.ofNat_lt, Int.toNat_natCast, ge_iff_le, gt_iff_lt] at c29b0N_)))
                                      (try (have c29b0NT_ := eq_true c29b0N_))
                                      have c29b1 : decide (l1.length ≤ (l0.drop ((rd t166 x10_3) : Int).toNat).length) = true := decide_eq_true (Int.ofNat_le.mp c29)
                                      (try (have c29b1N_ := of_decide_eq_true c29b1; (try simp only [List.length_drop, List.length_take, Int.ofNat_le, Int.ofNat_lt, Int.toNat_natCast, ge_iff_le, gt_iff_lt] at c29b1N_)))
                                      (try (have c29b1NT_ := eq_true c29b1N_))
                                      clear c29
                                      (first | rw [c29b0] | (simp only [i64_w, i32_w]; rw [c29b0]) | skip)
                                      by_cases c30 : 0 ≤ (l1.length : Int)
                                      · rw [if_pos c30] at H
                                        have c30b0 := eq_true c30
                                        have c30b1 : decide (0 ≤ (l1.length : Int)) = true := decide_eq_true c30
                                        clear c30
                                        by_cases c31 : (l1.length : Int) ≤ ((l0.drop ((rd t166 x10_3) : Int).toNat).length : Int)
                                        · rw [if_pos c31] at H
                                          have c31b0 := eq_true c31
                                          have c31b1 : decide ((l1.length : Int) ≤ ((l0.drop ((rd t166 x10_3) : Int).toNat).length : Int)) = true := decide_eq_true c31
                                          (try (have c31b1N_ := of_decide_eq_true c31b1; (try simp only [List.length_drop, List.length_take, Int.ofNat_le, Int.ofNat_lt, Int.toNat_natCast, ge_iff_le, gt_iff_lt] at c31b1N_)))
                                          (try (have c31b1NT_ := eq_true c31b1N_))
                                          clear c31
                                          have H' := Aside0.mk H
                                          clear H
                                          obtain ⟨i032, hi032, _, hsz32, _⟩ := info_parts info5
                                          obtain ⟨hcut32, hA32, hC32⟩ := print_take_of (P := Try.prog) (Value.int .u8) 0 22 5 .i64 Try.underlying22 hi032 hsz32 A28 (c0 - (rd t166 x10_3).toNat) (l0.drop ((rd t166 x10_3) : Int).toNat) (l1.length : Int) (of_decide_eq_true (by first | (with_reducible assumption) | assumption)) (of_decide_eq_true (by first | (with_reducible assumption) | assumption)) HC174.out
                                          have HR175 := Aside0.mk (Kd.C_of_reads (h1 := fun _ => rfl) (hA32 _ (Kd.reads_of_C HR174.out)))
                                          have HC175 := Aside0.mk hC32
                                          (try (have HC175N_ := HC175.out; simp (disch := omega) only [List.length_drop, List.length_take, Int.toNat_natCast, Nat.min_eq_left] at HC175N_; have HC175NT_ := eq_true HC175N_))
                                          clear hA32 hC32 hi032 hsz32
                                          have hcv33 := Kd.C_string (P := Try.prog) (A := A28) (c := (c0 - (rd t166 x10_3).toNat)) Try.underlying22 Try.underlying5 Try.underlying9 (Kd.C_below HR175.out HB.out); (try simp (disch := omega) only [List.length_drop, List.length_take, Int.toNat_natCast, Nat.min_eq_left] at hcv33); have hcv33Q_ := fun q_ : Nat => Kd.C_string (P := Try.prog) (A := A28) (c := (c0 - (rd t166 x10_3).toNat)) Try.underlying22 Try.underlying5 Try.underlying9 (Kd.C_drewN (Kd.C_below HR175.out HB.out) q_); (try simp (disch := omega) only [List.length_drop, List.length_take, Int.toNat_natCast, Nat.min_eq_left] at hcv33Q_)
                                          have hcv34 := Kd.C_string (P := Try.prog) (A := A1) (c := c1) Try.underlying22 Try.underlying5 Try.underlying9 (Kd.C_below HR1.out HB.out); (try simp (disch := omega) only [List.length_drop, List.length_take, Int.toNat_natCast, Nat.min_eq_left] at hcv34); have hcv34Q_ := fun q_ : Nat => Kd.C_string (P := Try.prog) (A := A1) (c := c1) Try.underlying22 Try.underlying5 Try.underlying9 (Kd.C_drewN (Kd.C_below HR1.out HB.out) q_); (try simp (disch := omega) only [List.length_drop, List.length_take, Int.toNat_natCast, Nat.min_eq_left] at hcv34Q_)
                                          go_wp2
                                          repeat (go_quiet (fail); try go_wp2)
                                          go_meet
                                          case rel => exact ⟨_, (((strOfNums ((l0.drop ((rd t166 x10_3) : Int).toNat).take ((l1.length : Int) : Int).toNat)).toList == (strOfNums l1).toList)), (by first | rfl | (simp; done) | (simp [*]; done)), H', ⟨by have := HJ2.out; have := HJ8.out; have := HK3.out; have := HJ17.out; first | omega | exact Nat.le_refl _⟩, ⟨by (with_reducible repeat (first | apply Kd.R_alloc | apply Kd.R_drewN | apply Kd.R_drew)); exact HO_5.out⟩, ⟨by repeat (first | (with_reducible first | exact HB.out | apply below_alloc | apply pw_below_drewN | apply below_drew1) | exact HB.out)⟩⟩
                                        · rw [if_neg c31] at H
                                          exact absurd H (by simp)
                                      · rw [if_neg c30] at H
                                        exact absurd H (by simp)
                                    · rw [if_neg c29] at H
                                      have c29b0 : decide ((l1.length : Int) ≤ ((l0.drop ((rd t166 x10_3) : Int).toNat).length : Int)) = false := decide_eq_false c29
                                      (try (have c29b0N_ := of_decide_eq_false c29b0; (try simp only [List.length_drop, List.length_take, Int.ofNat_le, Int.ofNat_lt, Int.toNat_natCast, ge_iff_le, gt_iff_lt] at c29b0N_)))
                                      (try (have c29b0NT_ := eq_false c29b0N_))
                                      have c29b1 : decide (l1.length ≤ (l0.drop ((rd t166 x10_3) : Int).toNat).length) = false := decide_eq_false (fun h => c29 (Int.ofNat_le.mpr h))
                                      (try (have c29b1N_ := of_decide_eq_false c29b1; (try simp only [List.length_drop, List.length_take, Int.ofNat_le, Int.ofNat_lt, Int.toNat_natCast, ge_iff_le, gt_iff_lt] at c29b1N_)))
                                      (try (have c29b1NT_ := eq_false c29b1N_))
                                      clear c29
                                      (first | rw [c29b0] | (simp only [i64_w, i32_w]; rw [c29b0]) | skip)
                                      have H' := Aside0.mk H
                                      clear H
                                      go_wp2
                                      repeat (go_quiet (fail); try go_wp2)
                                      go_meet
                                      case rel => exact ⟨_, (false), (by first | rfl | (simp; done) | (simp [*]; done)), H', ⟨by have := HJ2.out; have := HJ8.out; have := HK3.out; have := HJ17.out; first | omega | exact Nat.le_refl _⟩, ⟨by (with_reducible repeat (first | apply Kd.R_alloc | apply Kd.R_drewN | apply Kd.R_drew)); exact HO_5.out⟩, ⟨by repeat (first | (with_reducible first | exact HB.out | apply below_alloc | apply pw_below_drewN | apply below_drew1) | exact HB.out)⟩⟩
                                  case rest =>
                                    clear HC27
                                    try clear c1
                                    try clear p1
                                    try clear q1
                                    try clear hx1
                                    try clear qi1
                                    try clear c2
                                    try clear p2
                                    try clear c3
                                    try clear hcv3
                                    try clear c4
                                    try clear c4b0
                                    try clear c4b1
                                    try clear c5
                                    try clear p6
                                    try clear c11
                                    try clear c11b0
                                    try clear c11b1
                                    try clear c12
                                    try clear c12b0
                                    try clear c12b1
                                    try clear c13
                                    try clear c13b0
                                    try clear c13b1
                                    try clear c16
                                    try clear c17
                                    try clear c17b0
                                    try clear p17
                                    try clear q17
                                    try clear hx17
                                    try clear qi17
                                    try clear c20
                                    try clear c20b0
                                    try clear c21
                                    try clear c21b0
                                    try clear c22
                                    try clear c23
                                    try clear c23b0
                                    try clear c24
                                    try clear c24b0
                                    try clear c25
                                    try clear c25b0
                                    try clear c25b1
                                    try clear c26
                                    try clear c26b0
                                    try clear c26b1
                                    try clear c29
                                    try clear c29b0
                                    try clear c29b1
                                    try clear c30
                                    try clear c30b0
                                    try clear c30b1
                                    try clear c31
                                    try clear c31b0
                                    try clear c31b1
                                    try clear hcv33
                                    try clear hcv34
                                    try clear hx170_0
                                    try clear hx171_0
                                    try clear hx172_0
                                    try clear hx173_0
                                    try clear p1
                                    try clear p17
                                    try clear p170
                                    try clear p171
                                    try clear p172
                                    try clear p173
                                    try clear p2
                                    try clear p6
                                    try clear q1
                                    try clear q17
                                    try clear q170
                                    try clear q171
                                    try clear q172
                                    try clear q173
                                    obtain ⟨kq, x12_26, rfl, HA, HJ26, HO_5, HB⟩ := hcut
                                    cases kq with
                                    | zero => exact absurd HA.out (by simp [haystacklaw17_SuffixFirst.j4])
                                    | succ kj26 =>
                                      have H := HA.out
                                      clear HA
                                      simp only [haystacklaw17_SuffixFirst.j4] at H
                                      by_cases c35 : x12_26 = true
                                      · subst c35
                                        have H1 : (if x9_3 = true then (haystacklaw17_SuffixFirst.l0 kj26 l0 l1 t166 (wrap64 (x7_3 + 1)) x8_3 true (wrap64 (x10_3 + 1))) else (haystacklaw17_SuffixFirst.l0 kj26 l0 l1 t166 (wrap64 (x7_3 + 1)) (wrap64 (x8_3 + 1)) true (wrap64 (x10_3 + 1)))) = some r := by rw [if_pos rfl] at H; exact H
                                        clear H
                                        have H := H1
                                        clear H1
                                        by_cases c36 : x9_3 = true
                                        · subst c36
                                          have H1 : (haystacklaw17_SuffixFirst.l0 kj26 l0 l1 t166 (wrap64 (x7_3 + 1)) x8_3 true (wrap64 (x10_3 + 1))) = some r := by rw [if_pos rfl] at H; exact H
                                          clear H
                                          have H := H1
                                          clear H1
                                          have H' := Aside0.mk H
                                          clear H
                                          go_wp2
                                          repeat (go_quiet (fail); try go_wp2)
                                          go_roundg kj26
                                          case measure => have := HJ2.out; have := HJ8.out; have := HK3.out; have := HJ17.out; have := HJ26.out; omega
                                          case rel => exact ⟨(wrap64 (x7_3 + 1)), (x8_3), (true), (wrap64 (x10_3 + 1)), (by first | rfl | (simp; done) | (simp [*]; done)), (by first | rfl | (simp; done) | (simp [*]; done)), (by first | rfl | (simp; done) | (simp [*]; done)), (by first | rfl | (simp; done) | (simp [*]; done)), H', ⟨by have := HJ2.out; have := HJ8.out; have := HK3.out; have := HJ17.out; have := HJ26.out; omega⟩, ⟨by (with_reducible repeat (first | apply Kd.R_alloc | apply Kd.R_drewN | apply Kd.R_drew)); exact HO_5.out⟩, ⟨by repeat (first | (with_reducible first | exact HB.out | apply below_alloc | apply pw_below_drewN | apply below_drew1) | exact HB.out)⟩⟩
                                        · replace c36 := Bool.eq_false_iff.mpr c36
                                          subst c36
                                          have H1 : (haystacklaw17_SuffixFirst.l0 kj26 l0 l1 t166 (wrap64 (x7_3 + 1)) (wrap64 (x8_3 + 1)) true (wrap64 (x10_3 + 1))) = some r := by rw [if_neg (show ¬ (false = true) by decide)] at H; exact H
                                          clear H
                                          have H := H1
                                          clear H1
                                          have H' := Aside0.mk H
                                          clear H
                                          go_wp2
                                          repeat (go_quiet (fail); try go_wp2)
                                          go_roundg kj26
                                          case measure => have := HJ2.out; have := HJ8.out; have := HK3.out; have := HJ17.out; have := HJ26.out; omega
                                          case rel => exact ⟨(wrap64 (x7_3 + 1)), (wrap64 (x8_3 + 1)), (true), (wrap64 (x10_3 + 1)), (by first | rfl | (simp; done) | (simp [*]; done)), (by first | rfl | (simp; done) | (simp [*]; done)), (by first | rfl | (simp; done) | (simp [*]; done)), (by first | rfl | (simp; done) | (simp [*]; done)), H', ⟨by have := HJ2.out; have := HJ8.out; have := HK3.out; have := HJ17.out; have := HJ26.out; omega⟩, ⟨by (with_reducible repeat (first | apply Kd.R_alloc | apply Kd.R_drewN | apply Kd.R_drew)); exact HO_5.out⟩, ⟨by repeat (first | (with_reducible first | exact HB.out | apply below_alloc | apply pw_below_drewN | apply below_drew1) | exact HB.out)⟩⟩
                                      · replace c35 := Bool.eq_false_iff.mpr c35
                                        subst c35
                                        have H1 : (haystacklaw17_SuffixFirst.l0 kj26 l0 l1 t166 x7_3 x8_3 false (wrap64 (x10_3 + 1))) = some r := by rw [if_neg (show ¬ (false = true) by decide)] at H; exact H
                                        clear H
                                        have H := H1
                                        clear H1
                                        have H' := Aside0.mk H
                                        clear H
                                        go_wp2
                                        repeat (go_quiet (fail); try go_wp2)
                                        go_roundg kj26
                                        case measure => have := HJ2.out; have := HJ8.out; have := HK3.out; have := HJ17.out; have := HJ26.out; omega
                                        case rel => exact ⟨(x7_3), (x8_3), (false), (wrap64 (x10_3 + 1)), (by first | rfl | (simp; done) | (simp [*]; done)), (by first | rfl | (simp; done) | (simp [*]; done)), (by first | rfl | (simp; done) | (simp [*]; done)), (by first | rfl | (simp; done) | (simp [*]; done)), H', ⟨by have := HJ2.out; have := HJ8.out; have := HK3.out; have := HJ17.out; have := HJ26.out; omega⟩, ⟨by (with_reducible repeat (first | apply Kd.R_alloc | apply Kd.R_drewN | apply Kd.R_drew)); exact HO_5.out⟩, ⟨by repeat (first | (with_reducible first | exact HB.out | apply below_alloc | apply pw_below_drewN | apply below_drew1) | exact HB.out)⟩⟩
                                · rw [if_neg c26] at H
                                  exact absurd H (by simp)
                              · rw [if_neg c25] at H
                                exact absurd H (by simp)
                            · rw [if_neg c24] at H
                              exact absurd H (by simp)
                          · rw [if_neg c23] at H
                            exact absurd H (by simp)
                  · rw [if_neg c17] at H
                    have c17b0 : decide (x10_3 < (t166.length : Int)) = false := decide_eq_false c17
                    clear c17
                    have H' := Aside0.mk H
                    clear H
                    obtain ⟨Ao37, co37, eo37⟩ := Kd.R_slice HO_5.out
                    subst eo37
                    go_wp2
                    repeat (go_quiet (fail); try go_wp2)
                    go_loopg [13, 14] k3 (fun kq v13 v14 w' => ∃ (x13_4 : Int) (x14_4 : Int), v13 = .int .i64 x13_4 ∧ v14 = .int .i64 x14_4 ∧ Aside0 (haystacklaw17_SuffixFirst.l1 kq l0 l1 x7_3 x8_3 x13_4 x14_4 = some r) ∧ Aside0 (kq ≤ k3) ∧ Aside0 (Below w.heap.size w w'))
                    case atStart => exact ⟨(0), (0), (by first | rfl | (simp; done) | (simp [*]; done)), (by first | rfl | (simp; done) | (simp [*]; done)), H', ⟨Nat.le_refl _⟩, ⟨by repeat (first | (with_reducible first | exact HB.out | apply below_alloc | apply pw_below_drewN | apply below_drew1) | exact HB.out)⟩⟩
                    case round =>
                      clear H'
                      try clear c1
                      try clear p1
                      try clear q1
                      try clear hx1
                      try clear qi1
                      try clear c2
                      try clear p2
                      try clear c3
                      try clear hcv3
                      try clear c4
                      try clear c4b0
                      try clear c4b1
                      try clear c5
                      try clear p6
                      try clear c11
                      try clear c11b0
                      try clear c11b1
                      try clear c12
                      try clear c12b0
                      try clear c12b1
                      try clear c13
                      try clear c13b0
                      try clear c13b1
                      try clear c16
                      try clear c17
                      try clear c17b0
                      try clear p17
                      try clear q17
                      try clear hx17
                      try clear qi17
                      try clear c20
                      try clear c20b0
                      try clear c21
                      try clear c21b0
                      try clear c22
                      try clear c23
                      try clear c23b0
                      try clear c24
                      try clear c24b0
                      try clear c25
                      try clear c25b0
                      try clear c25b1
                      try clear c26
                      try clear c26b0
                      try clear c26b1
                      try clear c29
                      try clear c29b0
                      try clear c29b1
                      try clear c30
                      try clear c30b0
                      try clear c30b1
                      try clear c31
                      try clear c31b0
                      try clear c31b1
                      try clear hcv33
                      try clear hcv34
                      try clear c35
                      try clear c36
                      try clear hx170_0
                      try clear hx171_0
                      try clear hx172_0
                      try clear hx173_0
                      try clear p1
                      try clear p17
                      try clear p170
                      try clear p171
                      try clear p172
                      try clear p173
                      try clear p2
                      try clear p6
                      try clear q1
                      try clear q17
                      try clear q170
                      try clear q171
                      try clear q172
                      try clear q173
                      obtain ⟨x13_4, x14_4, rfl, rfl, HA, HK4, HB⟩ := hrel
                      cases gk with
                      | zero => exact absurd HA.out (by simp [haystacklaw17_SuffixFirst.l1])
                      | succ k4 =>
                        have H := HA.out
                        clear HA
                        simp only [haystacklaw17_SuffixFirst.l1] at H
                        by_cases c38 : (wrap64 (x14_4 + (l1.length : Int))) ≤ (l0.length : Int)
                        · rw [if_pos c38] at H
                          have c38b0 : decide ((wrap64 (x14_4 + (l1.length : Int))) ≤ (l0.length : Int)) = true := decide_eq_true c38
                          (try (have c38b0N_ := of_decide_eq_true c38b0; (try simp only [List.length_drop, List.length_take, Int.ofNat_le, Int.ofNat_lt, Int.toNat_natCast, ge_iff_le, gt_iff_lt] at c38b0N_)))
                          (try (have c38b0NT_ := eq_true c38b0N_))
                          clear c38
                          by_cases c39 : 0 ≤ x14_4
                          · rw [if_pos c39] at H
                            have c39b0 := eq_true c39
                            have c39b1 : decide (0 ≤ x14_4) = true := decide_eq_true c39
                            clear c39
                            by_cases c40 : x14_4 ≤ (wrap64 (x14_4 + (l1.length : Int)))
                            · rw [if_pos c40] at H
                              have c40b0 := eq_true c40
                              have c40b1 : decide (x14_4 ≤ (wrap64 (x14_4 + (l1.length : Int)))) = true := decide_eq_true c40
                              (try (have c40b1N_ := of_decide_eq_true c40b1; (try simp only [List.length_drop, List.length_take, Int.ofNat_le, Int.ofNat_lt, Int.toNat_natCast, ge_iff_le, gt_iff_lt] at c40b1N_)))
                              (try (have c40b1NT_ := eq_true c40b1N_))
                              have c41b0 := eq_true (of_decide_eq_true (by first | (with_reducible assumption) | assumption) : (wrap64 (x14_4 + (l1.length : Int))) ≤ (l0.length : Int))
                              by_cases c42 : (strOfNums ((l0.take ((wrap64 (x14_4 + (l1.length : Int))) : Int).toNat).drop (x14_4 : Int).toNat)).toList = (strOfNums l1).toList
                              · rw [if_pos c42] at H
                                have c42b0 : ((strOfNums ((l0.take ((wrap64 (x14_4 + (l1.length : Int))) : Int).toNat).drop (x14_4 : Int).toNat)).toList == (strOfNums l1).toList) = true := beq_iff_eq.mpr c42
                                have c42b1 : ((strOfNums ((l0.take ((wrap64 (x14_4 + (l1.length : Int))) : Int).toNat).drop (x14_4 : Int).toNat)).toList != (strOfNums l1).toList) = false := bne_eq_false_iff_eq.mpr c42
                                clear c42
                                have H' := Aside0.mk H
                                clear H
                                obtain ⟨i043, hi043, _, hsz43, _⟩ := info_parts info5
                                obtain ⟨A43, hcut43, hA43, hC43⟩ := print_mid_of (P := Try.prog) (Value.int .u8) 0 22 5 .i64 .i64 Try.underlying22 hi043 hsz43 A0 c0 l0 x14_4 (wrap64 (x14_4 + (l1.length : Int))) (of_decide_eq_true (by first | (with_reducible assumption) | assumption)) (by first | omega | exact of_decide_eq_true (by first | (with_reducible assumption) | assumption)) (of_decide_eq_true (by first | (with_reducible assumption) | assumption)) HC0.out
                                have HR176 := Aside0.mk (Kd.C_of_reads (h1 := fun _ => rfl) (hA43 _ (Kd.reads_of_C HR0.out)))
                                have HC176 := Aside0.mk hC43
                                (try (have HC176N_ := HC176.out; simp (disch := omega) only [List.length_drop, List.length_take, Int.toNat_natCast, Nat.min_eq_left] at HC176N_; have HC176NT_ := eq_true HC176N_))
                                clear hA43 hC43 hi043 hsz43
                                have hcv44 := Kd.C_string (P := Try.prog) (A := A43) (c := (c0 - x14_4.toNat)) Try.underlying22 Try.underlying5 Try.underlying9 (Kd.C_below HR176.out HB.out); (try simp (disch := omega) only [List.length_drop, List.length_take, Int.toNat_natCast, Nat.min_eq_left] at hcv44); have hcv44Q_ := fun q_ : Nat => Kd.C_string (P := Try.prog) (A := A43) (c := (c0 - x14_4.toNat)) Try.underlying22 Try.underlying5 Try.underlying9 (Kd.C_drewN (Kd.C_below HR176.out HB.out) q_); (try simp (disch := omega) only [List.length_drop, List.length_take, Int.toNat_natCast, Nat.min_eq_left] at hcv44Q_)
                                have hcv45 := Kd.C_string (P := Try.prog) (A := A1) (c := c1) Try.underlying22 Try.underlying5 Try.underlying9 (Kd.C_below HR1.out HB.out); (try simp (disch := omega) only [List.length_drop, List.length_take, Int.toNat_natCast, Nat.min_eq_left] at hcv45); have hcv45Q_ := fun q_ : Nat => Kd.C_string (P := Try.prog) (A := A1) (c := c1) Try.underlying22 Try.underlying5 Try.underlying9 (Kd.C_drewN (Kd.C_below HR1.out HB.out) q_); (try simp (disch := omega) only [List.length_drop, List.length_take, Int.toNat_natCast, Nat.min_eq_left] at hcv45Q_)
                                go_wp2
                                repeat (go_quiet (fail); try go_wp2)
                                go_roundg k4
                                case measure => have := HJ2.out; have := HJ8.out; have := HK3.out; have := HK4.out; omega
                                case rel => exact ⟨(wrap64 (x13_4 + 1)), (wrap64 (x14_4 + 1)), (by first | rfl | (simp; done) | (simp [*]; done)), (by first | rfl | (simp; done) | (simp [*]; done)), H', ⟨by have := HJ2.out; have := HJ8.out; have := HK3.out; have := HK4.out; omega⟩, ⟨by repeat (first | (with_reducible first | exact HB.out | apply below_alloc | apply pw_below_drewN | apply below_drew1) | exact HB.out)⟩⟩
                              · rw [if_neg c42] at H
                                have c42b0 : ((strOfNums ((l0.take ((wrap64 (x14_4 + (l1.length : Int))) : Int).toNat).drop (x14_4 : Int).toNat)).toList == (strOfNums l1).toList) = false := beq_eq_false_iff_ne.mpr c42
                                have c42b1 : ((strOfNums ((l0.take ((wrap64 (x14_4 + (l1.length : Int))) : Int).toNat).drop (x14_4 : Int).toNat)).toList != (strOfNums l1).toList) = true := bne_iff_ne.mpr c42
                                have H' := Aside0.mk H
                                clear H
                                obtain ⟨i046, hi046, _, hsz46, _⟩ := info_parts info5
                                obtain ⟨A46, hcut46, hA46, hC46⟩ := print_mid_of (P := Try.prog) (Value.int .u8) 0 22 5 .i64 .i64 Try.underlying22 hi046 hsz46 A0 c0 l0 x14_4 (wrap64 (x14_4 + (l1.length : Int))) (of_decide_eq_true (by first | (with_reducible assumption) | assumption)) (by first | omega | exact of_decide_eq_true (by first | (with_reducible assumption) | assumption)) (of_decide_eq_true (by first | (with_reducible assumption) | assumption)) HC0.out
                                have HR176 := Aside0.mk (Kd.C_of_reads (h1 := fun _ => rfl) (hA46 _ (Kd.reads_of_C HR0.out)))
                                have HC176 := Aside0.mk hC46
                                (try (have HC176N_ := HC176.out; simp (disch := omega) only [List.length_drop, List.length_take, Int.toNat_natCast, Nat.min_eq_left] at HC176N_; have HC176NT_ := eq_true HC176N_))
                                clear hA46 hC46 hi046 hsz46
                                have hcv47 := Kd.C_string (P := Try.prog) (A := A46) (c := (c0 - x14_4.toNat)) Try.underlying22 Try.underlying5 Try.underlying9 (Kd.C_below HR176.out HB.out); (try simp (disch := omega) only [List.length_drop, List.length_take, Int.toNat_natCast, Nat.min_eq_left] at hcv47); have hcv47Q_ := fun q_ : Nat => Kd.C_string (P := Try.prog) (A := A46) (c := (c0 - x14_4.toNat)) Try.underlying22 Try.underlying5 Try.underlying9 (Kd.C_drewN (Kd.C_below HR176.out HB.out) q_); (try simp (disch := omega) only [List.length_drop, List.length_take, Int.toNat_natCast, Nat.min_eq_left] at hcv47Q_)
                                have hcv48 := Kd.C_string (P := Try.prog) (A := A1) (c := c1) Try.underlying22 Try.underlying5 Try.underlying9 (Kd.C_below HR1.out HB.out); (try simp (disch := omega) only [List.length_drop, List.length_take, Int.toNat_natCast, Nat.min_eq_left] at hcv48); have hcv48Q_ := fun q_ : Nat => Kd.C_string (P := Try.prog) (A := A1) (c := c1) Try.underlying22 Try.underlying5 Try.underlying9 (Kd.C_drewN (Kd.C_below HR1.out HB.out) q_); (try simp (disch := omega) only [List.length_drop, List.length_take, Int.toNat_natCast, Nat.min_eq_left] at hcv48Q_)
                                go_wp2
                                repeat (go_quiet (fail); try go_wp2)
                                go_roundg k4
                                case measure => have := HJ2.out; have := HJ8.out; have := HK3.out; have := HK4.out; omega
                                case rel => exact ⟨(x13_4), (wrap64 (x14_4 + 1)), (by first | rfl | (simp; done) | (simp [*]; done)), (by first | rfl | (simp; done) | (simp [*]; done)), H', ⟨by have := HJ2.out; have := HJ8.out; have := HK3.out; have := HK4.out; omega⟩, ⟨by repeat (first | (with_reducible first | exact HB.out | apply below_alloc | apply pw_below_drewN | apply below_drew1) | exact HB.out)⟩⟩
                            · rw [if_neg c40] at H
                              exact absurd H (by simp)
                          · rw [if_neg c39] at H
                            exact absurd H (by simp)
                        · rw [if_neg c38] at H
                          have c38b0 : decide ((wrap64 (x14_4 + (l1.length : Int))) ≤ (l0.length : Int)) = false := decide_eq_false c38
                          (try (have c38b0N_ := of_decide_eq_false c38b0; (try simp only [List.length_drop, List.length_take, Int.ofNat_le, Int.ofNat_lt, Int.toNat_natCast, ge_iff_le, gt_iff_lt] at c38b0N_)))
                          (try (have c38b0NT_ := eq_false c38b0N_))
                          clear c38
                          by_cases c49 : x8_3 ≤ 1
                          · rw [if_pos c49] at H
                            have c49b0 : decide (x8_3 ≤ 1) = true := decide_eq_true c49
                            clear c49
                            by_cases c50 : x7_3 = x13_4
                            · rw [if_pos c50] at H
                              have c50b0 : (x7_3 == x13_4) = true := beq_iff_eq.mpr c50
                              have c50b1 : (x7_3 != x13_4) = false := bne_eq_false_iff_eq.mpr c50
                              clear c50
                              replace H := Option.bind_eq_some_iff.mp H
                              obtain ⟨t177, A510, H⟩ := H
                              replace H : (some t177) = some r := H
                              have A51 := Aside0.mk A510
                              clear A510
                              obtain rfl := Option.some.inj H
                              go_wp2_with (first | (go_at_call 8; (with_reducible refine (haystacklaw17_heads.calls k4  t177 _ A51.out).mono ?_); rintro e w52 ⟨rfl, hb⟩; have n0_ := Aside0.mk (below_step (by repeat (first | (with_reducible first | exact HB.out | apply below_alloc | apply pw_below_drewN | apply below_drew1) | exact HB.out)) hb); clear HB; have HB := n0_; clear n0_; (try clear hb); (try clear hb2); (try clear hk); (try clear hi)))
                              repeat (go_quiet (first | (go_at_call 8; (with_reducible refine (haystacklaw17_heads.calls k4  t177 _ A51.out).mono ?_); rintro e w52 ⟨rfl, hb⟩; have n0_ := Aside0.mk (below_step (by repeat (first | (with_reducible first | exact HB.out | apply below_alloc | apply pw_below_drewN | apply below_drew1) | exact HB.out)) hb); clear HB; have HB := n0_; clear n0_; (try clear hb); (try clear hb2); (try clear hk); (try clear hi))); try go_wp2_with (first | (go_at_call 8; (with_reducible refine (haystacklaw17_heads.calls k4  t177 _ A51.out).mono ?_); rintro e w52 ⟨rfl, hb⟩; have n0_ := Aside0.mk (below_step (by repeat (first | (with_reducible first | exact HB.out | apply below_alloc | apply pw_below_drewN | apply below_drew1) | exact HB.out)) hb); clear HB; have HB := n0_; clear n0_; (try clear hb); (try clear hb2); (try clear hk); (try clear hi))))
                              go_ret
                              exact ⟨by first | rfl | (simp [errW_none, errW_some] <;> rfl) | (simp [*, errW_none, errW_some] <;> rfl), by repeat (first | (with_reducible first | exact HB.out | apply below_alloc | apply pw_below_drewN | apply below_drew1) | exact HB.out)⟩
                            · rw [if_neg c50] at H
                              have c50b0 : (x7_3 == x13_4) = false := beq_eq_false_iff_ne.mpr c50
                              have c50b1 : (x7_3 != x13_4) = true := bne_iff_ne.mpr c50
                              obtain rfl := Option.some.inj H
                              go_wp2
                              repeat (go_quiet (fail); try go_wp2)
                              go_ret
                              exact ⟨by first | rfl | (simp [errW_none, errW_some] <;> rfl) | (simp [*, errW_none, errW_some] <;> rfl), by repeat (first | (with_reducible first | exact HB.out | apply below_alloc | apply pw_below_drewN | apply below_drew1) | exact HB.out)⟩
                          · rw [if_neg c49] at H
                            have c49b0 : decide (x8_3 ≤ 1) = false := decide_eq_false c49
                            clear c49
                            obtain rfl := Option.some.inj H
                            go_wp2
                            repeat (go_quiet (fail); try go_wp2)
                            go_ret
                            exact ⟨by first | rfl | (simp [errW_none, errW_some] <;> rfl) | (simp [*, errW_none, errW_some] <;> rfl), by repeat (first | (with_reducible first | exact HB.out | apply below_alloc | apply pw_below_drewN | apply below_drew1) | exact HB.out)⟩

/-- THE ONE PURE STATEMENT of haystacklaw17_SuffixFirst: yours. -/
def haystacklaw17_SuffixFirst.Pure : Prop := ∀ (l0 : List Int) (l1 : List Int), l0.length ≤ maxLen → l0.length * 1 ≤ 140737488351232 → (∀ x ∈ l0, (Lit.int .u8 x).wf = true) → l1.length ≤ maxLen → l1.length * 1 ≤ 140737488351232 → (∀ x ∈ l1, (Lit.int .u8 x).wf = true) → ∃ k, haystacklaw17_SuffixFirst.f k l0 l1 = some true
theorem haystacklaw17_SuffixFirst.walk (P : haystacklaw17_SuffixFirst.Pure) (a0 : Option Addr) (len0 cap0 : Nat) (z0 : List Int) (a1 : Option Addr) (len1 cap1 : Nat) (z1 : List Int) (w : World) (w0 : (a0 = none ∧ len0 = 0 ∧ cap0 = 0 ∧ z0 = []) ∨ ∃ x, a0 = some x ∧ len0 ≤ cap0 ∧ cap0 ≤ maxLen ∧ z0.length = cap0 ∧ (∀ i, i < z0.length → w.cell? (x.add i) = some (.int .u8 (z0.getD i 0))) ∧ ∀ n ∈ z0, (Lit.int .u8 n).wf = true) (y0 : len0 * 1 ≤ 140737488351232) (w1 : (a1 = none ∧ len1 = 0 ∧ cap1 = 0 ∧ z1 = []) ∨ ∃ x, a1 = some x ∧ len1 ≤ cap1 ∧ cap1 ≤ maxLen ∧ z1.length = cap1 ∧ (∀ i, i < z1.length → w.cell? (x.add i) = some (.int .u8 (z1.getD i 0))) ∧ ∀ n ∈ z1, (Lit.int .u8 n).wf = true) (y1 : len1 * 1 ≤ 140737488351232) :
    Calls Try.prog 3 #[.slice a0 len0 cap0, .slice a1 len1 cap1] w fun e w' => e = .returned (.bool true) ∧ Below w.heap.size w w' := by
  obtain ⟨l0, rfl, hr0, hm0, hw0, hc0⟩ := ReadsInt.ofRowC w0
  obtain ⟨l1, rfl, hr1, hm1, hw1, hc1⟩ := ReadsInt.ofRowC w1
  obtain ⟨k, h⟩ := P l0 l1 hm0 y0 hw0 hm1 y1 hw1
  refine (haystacklaw17_SuffixFirst.calls k _ _ l0 _ _ l1 true w (Kd.C_of_reads (d := (0 : Int)) (h1 := fun _ => rfl) hr0) hc0 (Kd.C_of_reads (d := (0 : Int)) (h1 := fun _ => rfl) hr1) hc1 h).mono ?_
  rintro e w' ⟨rfl, hd⟩
  exact ⟨rfl, hd⟩

end

end Go.Proofs.Ytclgeomjnpejmaa.PSuffixFirst
