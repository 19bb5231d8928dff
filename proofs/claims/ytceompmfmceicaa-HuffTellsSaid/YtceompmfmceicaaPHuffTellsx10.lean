-- written by a program of this project (print2)
import Derived.Test.YtceompmfmceicaaPHuffTellsx0
import Derived.Test.YtceompmfmceicaaPHuffTellsx8
import Derived.Test.YtceompmfmceicaaPHuffTellsx9
namespace Go.Proofs.Ytceompmfmceicaa.PHuffTells
open Go.RowKit Go.Proofs.YtceompmfmceicaaW.PrintMine Go.Proofs.YtceompmfmceicaaW.PrintWords Go.Proofs.YtceompmfmceicaaW.PrintLast Go.Proofs.YtceompmfmceicaaW.PrintMore
attribute [local go_sem] max2_int min2_int max_two min_two max_three min_three max_four min_four   -- for this text's walks alone
set_option linter.unusedVariables false
set_option linter.unusedSimpArgs false

/-! ### haystackref11_Lengths: function 11 -/
mutual
def haystackref11_Lengths.l0 : Nat → List Int → List (S65) → List Int → Int → Option (List Int × Int)
 | 0, _, _, _, _ => none
 | k + 1, x0, x4, x5, x6 => if x6 < 256 then (if 0 ≤ x6 then (if x6 < (x0.length : Int) then (if (rd x0 x6) > 0 then (if x4.length < 3518437208883 then (haystackref11_Lengths.l0 k x0 (x4 ++ [(⟨x6, rd x0 x6, (([x6] : List Int))⟩ : S65)]) x5 (wrap64 (x6 + 1))) else (none)) else (haystackref11_Lengths.l0 k x0 x4 x5 (wrap64 (x6 + 1)))) else (none)) else (none)) else (if (x4.length : Int) = 1 then (if 0 < (x4.length : Int) then (if 0 ≤ ((rd_T65 x4 0).f0) then (if ((rd_T65 x4 0).f0) < (x5.length : Int) then (some ((x5.set (((rd_T65 x4 0).f0) : Int).toNat 1), 0)) else (none)) else (none)) else (none)) else (haystackref11_Lengths.l1 k x4 x5 256))
def haystackref11_Lengths.l1 : Nat → List (S65) → List Int → Int → Option (List Int × Int)
 | 0, _, _, _ => none
 | k + 1, x4, x5, x7 => if (x4.length : Int) > 1 then ((haystackref11_least.f k x4).bind fun t233 => (if 0 ≤ t233 then (if t233 < (x4.length : Int) then ((haystackref11_without.f x4 t233).bind fun t236 => ((haystackref11_least.f k t236).bind fun t239 => (if 0 ≤ t239 then (if t239 < (t236.length : Int) then ((haystackref11_without.f t236 t239).bind fun t242 => ((some (([] : List Int) : List Int)).bind fun y245 => (if y245.length + ((rd_T65 x4 t233).f2).length < 17592186044416 then ((some (y245 ++ ((rd_T65 x4 t233).f2) : List Int)).bind fun y248 => (if y248.length + ((rd_T65 t236 t239).f2).length < 17592186044416 then (haystackref11_Lengths.l2 k t242 x5 x7 (y248 ++ ((rd_T65 t236 t239).f2)) 0 ((rd_T65 x4 t233).f0) ((rd_T65 x4 t233).f1) ((rd_T65 x4 t233).f2) ((rd_T65 t236 t239).f0) ((rd_T65 t236 t239).f1) ((rd_T65 t236 t239).f2)) else (none))) else (none)))) else (none)) else (none)))) else (none)) else (none))) else (some (x5, 0))
def haystackref11_Lengths.l2 : Nat → List (S65) → List Int → Int → List Int → Int → Int → Int → List Int → Int → Int → List Int → Option (List Int × Int)
 | 0, _, _, _, _, _, _, _, _, _, _, _ => none
 | k + 1, x4, x5, x7, x12, x13, x236000, x236001, x236002, x242000, x242001, x242002 => if x13 < (x12.length : Int) then (if 0 ≤ x13 then (if 0 ≤ (rd x12 x13) then (if (rd x12 x13) < (x5.length : Int) then (haystackref11_Lengths.l2 k x4 (x5.set ((rd x12 x13) : Int).toNat (wrap64 ((rd x5 (rd x12 x13)) + 1))) x7 x12 (wrap64 (x13 + 1)) x236000 x236001 x236002 x242000 x242001 x242002) else (none)) else (none)) else (none)) else (if x4.length < 3518437208883 then (haystackref11_Lengths.l1 k (x4 ++ [(⟨x7, wrap64 (x236001 + x242001), x12⟩ : S65)]) x5 (wrap64 (x7 + 1))) else (none))
end
def haystackref11_Lengths.f (k : Nat) (l0 : List Int) : Option (List Int × Int) := (haystackref11_counted.f k l0).bind fun t219 => (if t219 = true then (if 256 ≤ 35184372088832 then (haystackref11_Lengths.l0 k l0 ([] : List (S65)) (List.replicate 256 0) 0) else (none)) else (some (([] : List Int), 2)))
theorem haystackref11_Lengths.mono_l : ∀ k, (∀ y0 y1 y2 y3, LeO (haystackref11_Lengths.l0 k y0 y1 y2 y3) (haystackref11_Lengths.l0 (k + 1) y0 y1 y2 y3)) ∧ (∀ y0 y1 y2, LeO (haystackref11_Lengths.l1 k y0 y1 y2) (haystackref11_Lengths.l1 (k + 1) y0 y1 y2)) ∧ (∀ y0 y1 y2 y3 y4 y5 y6 y7 y8 y9 y10, LeO (haystackref11_Lengths.l2 k y0 y1 y2 y3 y4 y5 y6 y7 y8 y9 y10) (haystackref11_Lengths.l2 (k + 1) y0 y1 y2 y3 y4 y5 y6 y7 y8 y9 y10))
 | 0 => ⟨fun _ _ _ _ r h => by simp [haystackref11_Lengths.l0] at h, fun _ _ _ r h => by simp [haystackref11_Lengths.l1] at h, fun _ _ _ _ _ _ _ _ _ _ _ r h => by simp [haystackref11_Lengths.l2] at h⟩
 | k + 1 => by
  obtain ⟨ih0, ih1, ih2⟩ := haystackref11_Lengths.mono_l k
  refine ⟨?_, ?_, ?_⟩
  ·intro y0 y1 y2 y3
   unfold haystackref11_Lengths.l0
   repeat' first
   | (with_reducible exact ih0 _ _ _ _)
   | (with_reducible exact ih1 _ _ _)
   | (with_reducible exact ih2 _ _ _ _ _ _ _ _ _ _ _)
   | (with_reducible exact haystackref11_counted.mono _ _)
   | (with_reducible exact haystackref11_least.mono _ _)
   | (with_reducible exact LeO.refl _)
   | (with_reducible exact LeO.none _)
   | (with_reducible refine LeO.ite ?_ ?_)
   | (with_reducible refine LeO.bind ?_ (fun _ => ?_))
   | exact ih0 _ _ _ _
   | exact ih1 _ _ _
   | exact ih2 _ _ _ _ _ _ _ _ _ _ _
   | exact haystackref11_counted.mono _ _
   | exact haystackref11_least.mono _ _
   | exact LeO.none _
   | refine LeO.ite ?_ ?_
   | refine LeO.bind ?_ (fun _ => ?_)
  ·intro y0 y1 y2
   unfold haystackref11_Lengths.l1
   repeat' first
   | (with_reducible exact ih0 _ _ _ _)
   | (with_reducible exact ih1 _ _ _)
   | (with_reducible exact ih2 _ _ _ _ _ _ _ _ _ _ _)
   | (with_reducible exact haystackref11_counted.mono _ _)
   | (with_reducible exact haystackref11_least.mono _ _)
   | (with_reducible exact LeO.refl _)
   | (with_reducible exact LeO.none _)
   | (with_reducible refine LeO.ite ?_ ?_)
   | (with_reducible refine LeO.bind ?_ (fun _ => ?_))
   | exact ih0 _ _ _ _
   | exact ih1 _ _ _
   | exact ih2 _ _ _ _ _ _ _ _ _ _ _
   | exact haystackref11_counted.mono _ _
   | exact haystackref11_least.mono _ _
   | exact LeO.none _
   | refine LeO.ite ?_ ?_
   | refine LeO.bind ?_ (fun _ => ?_)
  ·intro y0 y1 y2 y3 y4 y5 y6 y7 y8 y9 y10
   unfold haystackref11_Lengths.l2
   repeat' first
   | (with_reducible exact ih0 _ _ _ _)
   | (with_reducible exact ih1 _ _ _)
   | (with_reducible exact ih2 _ _ _ _ _ _ _ _ _ _ _)
   | (with_reducible exact haystackref11_counted.mono _ _)
   | (with_reducible exact haystackref11_least.mono _ _)
   | (with_reducible exact LeO.refl _)
   | (with_reducible exact LeO.none _)
   | (with_reducible refine LeO.ite ?_ ?_)
   | (with_reducible refine LeO.bind ?_ (fun _ => ?_))
   | exact ih0 _ _ _ _
   | exact ih1 _ _ _
   | exact ih2 _ _ _ _ _ _ _ _ _ _ _
   | exact haystackref11_counted.mono _ _
   | exact haystackref11_least.mono _ _
   | exact LeO.none _
   | refine LeO.ite ?_ ?_
   | refine LeO.bind ?_ (fun _ => ?_)
theorem haystackref11_Lengths.mono : ∀ a0 k, LeO (haystackref11_Lengths.f k a0) (haystackref11_Lengths.f (k + 1) a0) := by
 intro a0 k
 obtain ⟨ih0, ih1, ih2⟩ := haystackref11_Lengths.mono_l k
 unfold haystackref11_Lengths.f
 repeat' first
   | (with_reducible exact ih0 _ _ _ _)
   | (with_reducible exact ih1 _ _ _)
   | (with_reducible exact ih2 _ _ _ _ _ _ _ _ _ _ _)
   | (with_reducible exact haystackref11_counted.mono _ _)
   | (with_reducible exact haystackref11_least.mono _ _)
   | (with_reducible exact LeO.refl _)
   | (with_reducible exact LeO.none _)
   | (with_reducible refine LeO.ite ?_ ?_)
   | (with_reducible refine LeO.bind ?_ (fun _ => ?_))
   | exact ih0 _ _ _ _
   | exact ih1 _ _ _
   | exact ih2 _ _ _ _ _ _ _ _ _ _ _
   | exact haystackref11_counted.mono _ _
   | exact haystackref11_least.mono _ _
   | exact LeO.none _
   | refine LeO.ite ?_ ?_
   | refine LeO.bind ?_ (fun _ => ?_)
def haystackref11_Lengths.T22 : Bool × List (List Nat × List Nat) := (true, [([], []), ([], []), ([1], [1]), ([0, 2], [0, 2]), ([], []), ([4], [4]), ([3, 5, 3], [3, 5]), ([6, 6, 0, 1, 2, 3, 4, 5, 6], [6])])
def haystackref11_Lengths.B22 : List Nat := [0, 0, 2, 7, 0, 16, 63, 127]
theorem haystackref11_Lengths.tab22 : rtab .any (opsOf Try.f11 22) = haystackref11_Lengths.T22 := by kernel_rfl
theorem haystackref11_Lengths.bits22 : waitsOk haystackref11_Lengths.T22.2 haystackref11_Lengths.B22 = true := by kernel_rfl
set_option maxHeartbeats 8000000 in
set_option maxRecDepth 100000 in
theorem haystackref11_Lengths.calls (k : Nat) (A0 : Option Addr) (c0 : Nat) (l0 : List Int) (r1 : List Int) (r2 : Int) (w : World) (hr0 : Kd.C (Kd.int .i64) w A0 l0.length l0) (hc0 : l0.length ≤ c0) (h : haystackref11_Lengths.f k l0 = some (r1, r2)) :
  Calls Try.prog 11 #[.slice A0 l0.length c0] w fun e w' => ∃ v0_ : Value, e = .returned (.tuple #[v0_, .int .i64 r2]) ∧ Kd.R (Kd.int .i64) 3 w' w.heap.size (fun _ => True) v0_ r1 ∧ Below w.heap.size w w' := by
 have hu65 := Try.underlying65
 have HR0 := Aside0.mk hr0
 have HC0 := Aside0.mk hc0
 clear hr0 hc0
 have HB := Aside0.mk (Below.refl w.heap.size w)
 have H : ((haystackref11_counted.f k l0).bind fun t219 => (if t219 = true then (if 256 ≤ 35184372088832 then (haystackref11_Lengths.l0 k l0 ([] : List (S65)) (List.replicate 256 0) 0) else (none)) else (some (([] : List Int), 2)))) = some (r1, r2) := h
 clear h
 replace H := Option.bind_eq_some_iff.mp H
 obtain ⟨t219, A20, H⟩ := H
 replace H : (if t219 = true then (if 256 ≤ 35184372088832 then (haystackref11_Lengths.l0 k l0 ([] : List (S65)) (List.replicate 256 0) 0) else (none)) else (some (([] : List Int), 2))) = some (r1, r2) := H
 have A2 := Aside0.mk A20
 clear A20
 by_cases c3 : t219 = true
 ·subst c3
  have H1 : (if 256 ≤ 35184372088832 then (haystackref11_Lengths.l0 k l0 ([] : List (S65)) (List.replicate 256 0) 0) else (none)) = some (r1, r2) := by rw [if_pos rfl] at H; exact H
  clear H
  have H := H1
  clear H1
  by_cases c4 : 256 ≤ 35184372088832
  ·rw [if_pos c4] at H
   have c4b0 := eq_true c4
   have c4b1 : decide (256 ≤ 35184372088832) = true := decide_eq_true c4
   clear c4
   obtain ⟨y220, hy220⟩ : ∃ y_ : List Int, y_ = (List.replicate 256 0) := ⟨_, rfl⟩
   replace H : (haystackref11_Lengths.l0 k l0 ([] : List (S65)) y220 0) = some (r1, r2) := by first | (rw [hy220]; with_reducible exact H) | (have H2_ := (Option.bind_some _ _).symm.trans H; rw [hy220]; with_reducible exact H2_) | (have H2_ := (Option.bind_some _ _).symm.trans H; with_reducible exact H2_) | with_reducible exact H | (rw [hy220]; exact H) | exact H
   have Ny220 := Aside0.mk hy220
   clear hy220
   have H' := Aside0.mk H
   clear H
   go_enter Try.func11, Try.ntmps11
   go_wp2_with (first | ((with_reducible refine gate_callee (f := 26) rfl ?_); refine goesL_ (some 15) rfl rfl Try.func26 (by kernel_rfl) rfl #[.slice A0 l0.length c0] rfl (by (try simp only [List.map_toArray, List.map_cons, List.map_nil]); first | done | rfl | (simp only [List.length_drop, List.length_take]; rfl)) ?_; (with_reducible refine (haystackref11_counted.calls k _ _ l0 true _ ?side1 ?side2 A2.out).mono ?_); (case side1 => repeat (first | exact HR0.out | (with_reducible refine Kd.C_alloc ?_ _) | (with_reducible refine Kd.C_drewN ?_ _) | (with_reducible refine Kd.C_drew ?_))); (case side2 => exact HC0.out); rintro e w' ⟨rfl, ⟨nd, rfl⟩⟩; refine ⟨_, rfl, ?_⟩) | ((with_reducible refine gate_dst (N := 17) rfl ?_); refine Kd.R_make (Kd.int .i64) _ 3 rfl (N := 17) rfl 22 _ _ rfl 256 rfl rfl Try.underlying22 (.int .i64 0) 8 info3 rfl (by decide) (by omega) 0 (ok := fun _ => True) (okp := fun _ => True) rfl (fun _ hk => hk) trivial (by omega) (by omega) (Below.refl _ _) (Nat.le_refl _) ?_; intro v221 w5 ho6 hb hg_ hnew_; clear hg_ hnew_; (first | rw [← Ny220.out] at ho6 | (simp only [Int.reduceToNat] at ho6; rw [← Ny220.out] at ho6)); have n0_ := Aside0.mk (Kd.R_lower ho6 (below_size (by repeat (first | (with_reducible first | exact HB.out | apply below_alloc | apply pw_below_drewN | apply below_drew1) | exact HB.out)))); have n1_ := Aside0.mk (below_step (by repeat (first | (with_reducible first | exact HB.out | apply below_alloc | apply pw_below_drewN | apply below_drew1) | exact HB.out)) hb); clear HB; have HO222 := n0_; have HB := n1_; clear n0_ n1_; clear hb ho6))
   go_loopg [4, 6] k (fun kq v4 v6 w' => ∃ (x4_1 : List (S65)) (x6_1 : Int), v6 = .int .i64 x6_1 ∧ Aside0 (haystackref11_Lengths.l0 kq l0 x4_1 y220 x6_1 = some (r1, r2)) ∧ Aside0 (kq ≤ k) ∧ Aside0 (Kd.N k65 65 w' w.heap.size (fun k_ => some k_ ≠ (v221 : Value).ownBlock) v4 x4_1) ∧ Aside0 (Kd.R (Kd.int .i64) 3 w' w.heap.size (fun _ => True) v221 y220) ∧ Aside0 (Below w.heap.size w w'))
   case atStart => exact ⟨(([] : List (S65))), (0), (by first | rfl | (simp; done) | (simp [*]; done)), H', ⟨Nat.le_refl _⟩, ⟨by first | exact Kd.S_nil _ _ _ _ _ | exact Kd.N_nil _ _ _ _ _ | exact Kd.V_nil _ _ _ _ _ | exact Kd.Q_nil _ _ _ _ _ | exact Kd.R_nil _ _ _ _ _⟩, ⟨by (with_reducible repeat (first | apply Kd.R_alloc | apply Kd.R_drewN | apply Kd.R_drew)); exact HO222.out⟩, ⟨by repeat (first | (with_reducible first | exact HB.out | apply below_alloc | apply pw_below_drewN | apply below_drew1) | exact HB.out)⟩⟩
   case round =>
    clear H'
    try clear c1
    try clear c2
    try clear p2
    try clear c3
    try clear c4
    try clear c4b0
    try clear c4b1
    obtain ⟨x4_1, x6_1, rfl, HA, HK1, HO_4, HO_5, HB⟩ := hrel
    cases gk with
    | zero => exact absurd HA.out (by simp [haystackref11_Lengths.l0])
    | succ k1 =>
     have H := HA.out
     clear HA
     simp only [haystackref11_Lengths.l0] at H
     by_cases c7 : x6_1 < 256
     ·rw [if_pos c7] at H
      have c7b0 : decide (x6_1 < 256) = true := decide_eq_true c7
      clear c7
      by_cases c8 : 0 ≤ x6_1
      ·rw [if_pos c8] at H
       have c8b0 : decide (0 ≤ x6_1) = true := decide_eq_true c8
       clear c8
       by_cases c9 : x6_1 < (l0.length : Int)
       ·rw [if_pos c9] at H
        have c9b0 : decide (x6_1 < (l0.length : Int)) = true := decide_eq_true c9
        clear c9
        by_cases c10 : (rd l0 x6_1) > 0
        ·rw [if_pos c10] at H
         have c10b0 : decide (0 < (rd l0 x6_1)) = true := decide_eq_true c10
         clear c10
         obtain ⟨y225, hy225⟩ : ∃ y_ : List Int, y_ = (([x6_1] : List Int)) := ⟨_, rfl⟩
         replace H : (if x4_1.length < 3518437208883 then (haystackref11_Lengths.l0 k1 l0 (x4_1 ++ [(⟨x6_1, rd l0 x6_1, y225⟩ : S65)]) y220 (wrap64 (x6_1 + 1))) else (none)) = some (r1, r2) := by first | (rw [hy225]; with_reducible exact H) | (have H2_ := (Option.bind_some _ _).symm.trans H; rw [hy225]; with_reducible exact H2_) | (have H2_ := (Option.bind_some _ _).symm.trans H; with_reducible exact H2_) | with_reducible exact H | (rw [hy225]; exact H) | exact H
         have Ny225 := Aside0.mk hy225
         clear hy225
         by_cases c11 : x4_1.length < 3518437208883
         ·rw [if_pos c11] at H
          have LMc11 := Aside0.mk c11
          clear c11
          obtain ⟨y228, hy228⟩ : ∃ y_ : List (S65), y_ = (x4_1 ++ [(⟨x6_1, rd l0 x6_1, y225⟩ : S65)]) := ⟨_, rfl⟩
          replace H : (haystackref11_Lengths.l0 k1 l0 y228 y220 (wrap64 (x6_1 + 1))) = some (r1, r2) := by first | (rw [hy228]; with_reducible exact H) | (have H2_ := (Option.bind_some _ _).symm.trans H; rw [hy228]; with_reducible exact H2_) | (have H2_ := (Option.bind_some _ _).symm.trans H; with_reducible exact H2_) | with_reducible exact H | (rw [hy228]; exact H) | exact H
          have Ny228 := Aside0.mk hy228
          clear hy228
          have H' := Aside0.mk H
          clear H
          have p223 : 0 ≤ (x6_1 : Int) := of_decide_eq_true (by first | (with_reducible assumption) | assumption)
          have q223 : x6_1 < (l0.length : Int) := of_decide_eq_true (by first | (with_reducible assumption) | assumption)
          obtain ⟨ad223, e223, hx223_0⟩ := Kd.at_int HR0.out x6_1 p223 q223
          cases e223
          replace hx223_0 := (HB.out.cell (World.block_lt_of_cell? w _ hx223_0)).trans hx223_0
          replace p223 := eq_true p223
          replace q223 := eq_true q223
          have p224 : 0 ≤ (x6_1 : Int) := of_decide_eq_true (by first | (with_reducible assumption) | assumption)
          have q224 : x6_1 < (l0.length : Int) := of_decide_eq_true (by first | (with_reducible assumption) | assumption)
          obtain ⟨ad224, e224, hx224_0⟩ := Kd.at_int HR0.out x6_1 p224 q224
          obtain rfl : ad223 = ad224 := (by injection e224)
          replace hx224_0 := (HB.out.cell (World.block_lt_of_cell? w _ hx224_0)).trans hx224_0
          replace p224 := eq_true p224
          replace q224 := eq_true q224
          go_wp2_with (first | ((with_reducible refine gate_dst (N := 34) rfl ?_); refine Kd.R_lit (Kd.int .i64) _ 3 ?hg (N := 34) ?hd (xs := ([x6_1] : List Int)) (inner := [.int .i64 x6_1]) (ok := fun _ => True) (okp := fun _ => True) ?hr ?hp (fun _ hk => hk) trivial (Below.refl _ _) (Nat.le_refl _) (by simp) ?_; (case hd => rfl); (case hg => rfl); (case hr => first | (go_simp; done) | (go_simp; rfl)); (case hp => exact (Reps.one (show Kd.M (Kd.int .i64) _ _ _ x6_1 [.int .i64 x6_1] from rfl) (Reps.none _ _))); intro v226 w12 ho13 hb hg_ hnew_; clear hg_ hnew_; (first | rw [← Ny225.out] at ho13 | (simp only [Int.reduceToNat] at ho13; rw [← Ny225.out] at ho13)); have n0_ := Aside0.mk (Kd.N_elder' (by (with_reducible repeat (first | apply Kd.N_alloc | apply Kd.N_drewN | apply Kd.N_drew)); exact HO_4.out) (Kd.R_base ho13) hb); have n1_ := Aside0.mk (Kd.R_elder' (by (with_reducible repeat (first | apply Kd.R_alloc | apply Kd.R_drewN | apply Kd.R_drew)); exact HO_5.out) (Kd.R_base ho13) hb); have n2_ := Aside0.mk (Kd.R_lower (Kd.R_new' ho13 (Kd.R_lt (by (with_reducible repeat (first | apply Kd.R_alloc | apply Kd.R_drewN | apply Kd.R_drew)); exact HO_5.out))) (below_size (by repeat (first | (with_reducible first | exact HB.out | apply below_alloc | apply pw_below_drewN | apply below_drew1) | exact HB.out)))); have n3_ := Aside0.mk (below_step (by repeat (first | (with_reducible first | exact HB.out | apply below_alloc | apply pw_below_drewN | apply below_drew1) | exact HB.out)) hb); clear HO_4; clear HO_5; clear HB; have HO_4 := n0_; have HO_5 := n1_; have HO227 := n2_; have HB := n3_; clear n0_ n1_ n2_ n3_; clear hb ho13; obtain ⟨Ao14, co14, eo14⟩ := Kd.R_slice HO227.out; subst eo14) | ((with_reducible refine gate_builtin (b := .append) (xs := #[.tmp 27, .tmp 36]) rfl ?_); at_builtin; refine Kd.N_append k65 (w0 := w) w.heap.size rfl (.tmp 27) (.tmp 36) 63 65 (.agg #[(.int .i64 0), (.int .i64 0), (.slice none 0 0)]) 40 rfl Try.underlying63 info65 rfl (by decide) (by omega) u4 x4_1 (⟨x6_1, rd l0 x6_1, y225⟩ : S65) [.int .i64 x6_1, .int .i64 (rd l0 x6_1), .slice Ao14 y225.length co14] (fun k_ => some k_ ≠ (v221 : Value).ownBlock) (fun k_ => ((fun k_ => some k_ ≠ (v221 : Value).ownBlock)) k_ ∧ some k_ ≠ (u4 : Value).ownBlock) rfl rfl ?aP (fun _ hk => hk) ?aF ?aO ?aB ?aS ?aL ?_; (case aP => exact (k65_mkF _ _ (⟨x6_1, rd l0 x6_1, y225⟩ : S65) (Kd.R_reads' (Kd.R_mono (ok' := (fun k_ => ((fun k_ => some k_ ≠ (v221 : Value).ownBlock)) k_ ∧ some k_ ≠ (u4 : Value).ownBlock)) (Kd.R_apart' (HO227.out) (Kd.N_typed HO_4.out) (by decide)) (fun k_ hk => ⟨hk.1.2, hk.2⟩))).2.1 (Kd.R_F (Kd.R_mono (ok' := (fun k_ => ((fun k_ => some k_ ≠ (v221 : Value).ownBlock)) k_ ∧ some k_ ≠ (u4 : Value).ownBlock)) (Kd.R_apart' (HO227.out) (Kd.N_typed HO_4.out) (by decide)) (fun k_ hk => ⟨hk.1.2, hk.2⟩))))); (case aB => exact (by repeat (first | (with_reducible first | exact HB.out | apply below_alloc | apply pw_below_drewN | apply below_drew1) | exact HB.out))); (case aF => exact (fun k_ hk => Kd.fresh' (Kd.R_lt (by (with_reducible repeat (first | apply Kd.R_alloc | apply Kd.R_drewN | apply Kd.R_drew)); exact HO_5.out)) k_ hk)); (case aO => exact (by (with_reducible repeat (first | apply Kd.N_alloc | apply Kd.N_drewN | apply Kd.N_drew)); exact Kd.N_mono HO_4.out (fun _ hk => hk.1))); (case aS => exact (below_size (by repeat (first | (with_reducible first | exact HB.out | apply below_alloc | apply pw_below_drewN | apply below_drew1) | exact HB.out)))); (case aL => have := LMc11.out; omega); intro v229 w15 ho hb hg hat; rw [← Ny228.out] at ho; have n0_ := Aside0.mk (Kd.R_over' (by (with_reducible repeat (first | apply Kd.R_alloc | apply Kd.R_drewN | apply Kd.R_drew)); exact HO_5.out) (Kd.N_typed (by (with_reducible repeat (first | apply Kd.N_alloc | apply Kd.N_drewN | apply Kd.N_drew)); exact HO_4.out)) (by decide) hg); have n1_ := Aside0.mk (hb); have n2_ := Aside0.mk (ho); clear HO_5; clear HB; clear HO_4; clear HO227; have HO_5 := n0_; have HB := n1_; have HO230 := n2_; clear n0_ n1_ n2_; clear ho hb hg hat))
          go_roundg k1
          case measure => have := HK1.out; omega
          case rel => exact ⟨(y228), (wrap64 (x6_1 + 1)), (by first | rfl | (simp; done) | (simp [*]; done)), H', ⟨by have := HK1.out; omega⟩, ⟨by (with_reducible repeat (first | apply Kd.N_alloc | apply Kd.N_drewN | apply Kd.N_drew)); exact HO230.out⟩, ⟨by (with_reducible repeat (first | apply Kd.R_alloc | apply Kd.R_drewN | apply Kd.R_drew)); exact Kd.R_mono HO_5.out (fun _ hk => trivial)⟩, ⟨by repeat (first | (with_reducible first | exact HB.out | apply below_alloc | apply pw_below_drewN | apply below_drew1) | exact HB.out)⟩⟩
         ·rw [if_neg c11] at H
          exact absurd H (by simp)
        ·rw [if_neg c10] at H
         have c10b0 : decide (0 < (rd l0 x6_1)) = false := decide_eq_false c10
         clear c10
         have H' := Aside0.mk H
         clear H
         have p223 : 0 ≤ (x6_1 : Int) := of_decide_eq_true (by first | (with_reducible assumption) | assumption)
         have q223 : x6_1 < (l0.length : Int) := of_decide_eq_true (by first | (with_reducible assumption) | assumption)
         obtain ⟨ad223, e223, hx223_0⟩ := Kd.at_int HR0.out x6_1 p223 q223
         cases e223
         replace hx223_0 := (HB.out.cell (World.block_lt_of_cell? w _ hx223_0)).trans hx223_0
         replace p223 := eq_true p223
         replace q223 := eq_true q223
         go_wp2
         go_roundg k1
         case measure => have := HK1.out; omega
         case rel => exact ⟨(x4_1), (wrap64 (x6_1 + 1)), (by first | rfl | (simp; done) | (simp [*]; done)), H', ⟨by have := HK1.out; omega⟩, ⟨by (with_reducible repeat (first | apply Kd.N_alloc | apply Kd.N_drewN | apply Kd.N_drew)); exact HO_4.out⟩, ⟨by (with_reducible repeat (first | apply Kd.R_alloc | apply Kd.R_drewN | apply Kd.R_drew)); exact HO_5.out⟩, ⟨by repeat (first | (with_reducible first | exact HB.out | apply below_alloc | apply pw_below_drewN | apply below_drew1) | exact HB.out)⟩⟩
       ·rw [if_neg c9] at H
        exact absurd H (by simp)
      ·rw [if_neg c8] at H
       exact absurd H (by simp)
     ·rw [if_neg c7] at H
      have c7b0 : decide (x6_1 < 256) = false := decide_eq_false c7
      clear c7
      by_cases c16 : (x4_1.length : Int) = 1
      ·rw [if_pos c16] at H
       have c16b0 : ((x4_1.length : Int) == 1) = true := beq_iff_eq.mpr c16
       have c16b1 : ((x4_1.length : Int) != 1) = false := bne_eq_false_iff_eq.mpr c16
       clear c16
       by_cases c17 : 0 < (x4_1.length : Int)
       ·rw [if_pos c17] at H
        have c17b0 : decide (0 < (x4_1.length : Int)) = true := decide_eq_true c17
        have c17b1 : decide (0 < x4_1.length) = true := decide_eq_true (by omega)
        clear c17
        by_cases c18 : 0 ≤ ((rd_T65 x4_1 0).f0)
        ·rw [if_pos c18] at H
         have c18b0 : decide (0 ≤ ((rd_T65 x4_1 0).f0)) = true := decide_eq_true c18
         clear c18
         by_cases c19 : ((rd_T65 x4_1 0).f0) < (y220.length : Int)
         ·rw [if_pos c19] at H
          have c19b0 : decide (((rd_T65 x4_1 0).f0) < (y220.length : Int)) = true := decide_eq_true c19
          clear c19
          obtain ⟨y232, hy232⟩ : ∃ y_ : List Int, y_ = (y220.set (((rd_T65 x4_1 0).f0) : Int).toNat 1) := ⟨_, rfl⟩
          replace H : (some (y232, 0)) = some (r1, r2) := by first | (rw [hy232]; with_reducible exact H) | (have H2_ := (Option.bind_some _ _).symm.trans H; rw [hy232]; with_reducible exact H2_) | (have H2_ := (Option.bind_some _ _).symm.trans H; with_reducible exact H2_) | with_reducible exact H | (rw [hy232]; exact H) | exact H
          have Ny232 := Aside0.mk hy232
          clear hy232
          simp only [Option.some.injEq, Prod.mk.injEq] at H
          obtain ⟨rfl, rfl⟩ := H
          obtain ⟨Ao21, co21, eo21⟩ := Kd.N_slice HO_4.out
          subst eo21
          have p231 : 0 ≤ (0 : Int) := (by omega)
          have q231 : 0 < (x4_1.length : Int) := of_decide_eq_true (by first | (with_reducible assumption) | assumption)
          obtain ⟨ad231, A231_2, c231_2, e231, hx231_0, hx231_1, hx231_2, hl231_2, hi231_2⟩ := at_T65 (Kd.N_reads' HO_4.out).2.2 0 p231 q231
          cases e231
          obtain ⟨ce231, hce231, hMe231, hcc231⟩ := Kd.N_get HO_4.out z65 0 p231 (by first | exact q231 | exact of_decide_eq_true (by first | (with_reducible assumption) | assumption) | (have e_ := (Kd.N_reads' HO_4.out).1; omega))
          obtain ⟨ua231_2, uc231_2, rfl, ul231_2, ge231_2⟩ := k65_openF hMe231
          have hv231_2 := hcc231 2 _ rfl
          rw [add_field _ _ 2 (by omega)] at hv231_2
          replace hv231_2 := Option.some.inj (hv231_2.symm.trans hx231_2)
          injection hv231_2 with hva_ hvn_ hvc_
          rw [hva_] at ge231_2
          rw [hvc_] at ul231_2
          have HL231_2 := Aside0.mk (show Kd.V (Kd.int .i64) 3 _ w.heap.size _ _ ((rd_T65 x4_1 0).f2) from Kd.V_mk ul231_2 ge231_2)
          clear hva_ hvn_ hvc_ ge231_2 ul231_2
          clear hcc231 hce231
          have qi231 : (0 < x4_1.length) = True := eq_true (by omega)
          (try rw [show ((0 : Int)).toNat = 0 from rfl] at hx231_0)
          (try rw [show 0 * 3 = 0 from rfl] at hx231_0)
          (try rw [Addr.add_zero'] at hx231_0)
          (try rw [show ((0 : Int)).toNat = 0 from rfl] at hx231_1)
          (try rw [show 0 * 3 = 0 from rfl] at hx231_1)
          (try rw [Addr.add_zero'] at hx231_1)
          (try rw [show ((0 : Int)).toNat = 0 from rfl] at hx231_2)
          (try rw [show 0 * 3 = 0 from rfl] at hx231_2)
          (try rw [Addr.add_zero'] at hx231_2)
          have HR231_2 := Aside0.mk hi231_2
          have HC231_2 := Aside0.mk hl231_2
          clear hi231_2 hl231_2
          replace p231 := eq_true p231
          replace q231 := eq_true q231
          have p20 : 0 ≤ (((rd_T65 x4_1 0).f0) : Int) := of_decide_eq_true (by first | (with_reducible assumption) | assumption)
          have q20 : (((rd_T65 x4_1 0).f0) : Int) < ((y220.length : Int) : Int) := of_decide_eq_true (by first | (with_reducible assumption) | assumption)
          obtain ⟨go20, co20, eo20, gb20, gl20, cl20, HG20⟩ := Kd.R_form HO_5.out (by omega)
          (first | cases eo20 | (injection eo20 with ea_ en_ ec_; (first | subst ea_ | (injection ea_ with ea_; subst ea_)); subst ec_; clear en_))
          have GB20 := Aside0.mk gb20
          have GG20 := Aside0.mk HG20
          clear gb20 gl20 HG20
          obtain ⟨hx20_0, hf20_0⟩ := Kd.R_celln 0 HO_5.out (((rd_T65 x4_1 0).f0) : Int) p20 q20
          replace p20 := eq_true p20
          replace q20 := eq_true q20
          have HP22 := Kd.R_putg HO_5.out (((rd_T65 x4_1 0).f0) : Int) 1
          go_wp2_with (first | ((with_reducible refine gate_store (t := 3) (p := 46) rfl ?_); refine store_event (t := 3) (p := 46) (v := ?vo_w23) (w1 := (wr.setCell ⟨go20, (((rd_T65 x4_1 0).f0) : Int).toNat, none⟩ (.int .i64 1))) ?hg ?ho ?hn ?hr ?_; (case ho => rfl); (case hg => rfl); (case hn => rfl); (case hr => first | (go_simp; done) | (go_simp; rfl)); intro w23 hw; have hg : wr.grownBy w23 (some go20) := (by rw [hw]; exact HP22.2); have hp_ : Kd.R (Kd.int .i64) 3 w23 w.heap.size (fun _ => True) (.slice (some ⟨go20, 0, none⟩) y220.length co20) y232 := (by rw [hw, Ny232.out]; exact HP22.1); clear HP22; have n0_ := Aside0.mk (Kd.N_afterv (v := (.slice (some ⟨go20, 0, none⟩) y220.length co20)) (v1 := (.slice (some ⟨go20, 0, none⟩) y220.length co20)) (ok := (fun _ => True)) (by (with_reducible repeat (first | apply Kd.N_alloc | apply Kd.N_drewN | apply Kd.N_drew)); exact Kd.N_mono HO_4.out (fun _ hk => ⟨trivial, hk⟩)) hg (.inl rfl)); have n1_ := Aside0.mk (hp_); have n2_ := Aside0.mk (Kd.V_afterv (v := (.slice (some ⟨go20, 0, none⟩) y220.length co20)) (v1 := (.slice (some ⟨go20, 0, none⟩) y220.length co20)) (ok := (fun k_ => some k_ ≠ (.slice (some ad231) x4_1.length co21 : Value).ownBlock)) (by (with_reducible repeat (first | apply Kd.V_alloc | apply Kd.V_drewN | apply Kd.V_drew)); exact Kd.V_mono HL231_2.out (fun _ hk => by first | exact ⟨hk.2, hk.1⟩ | simp only [ne_eq, hk, not_false_eq_true, and_self])) hg (.inl rfl)); have n3_ := Aside0.mk ((by rw [hw]; exact below_set (HB.out) GB20.out : Below w.heap.size w w23)); clear HO_4; clear HO_5; clear HL231_2; clear HB; have HO_4 := n0_; have HO_5 := n1_; have HL231_2 := n2_; have HB := n3_; clear n0_ n1_ n2_ n3_; clear hg hw hp_))
          go_ret2
          exact ⟨_, by first | rfl | (simp [errW_none, errW_some] <;> rfl) | (simp [*, errW_none, errW_some] <;> rfl), by (with_reducible repeat (first | apply Kd.R_alloc | apply Kd.R_drewN | apply Kd.R_drew)); exact HO_5.out, by repeat (first | (with_reducible first | exact HB.out | apply below_alloc | apply pw_below_drewN | apply below_drew1) | exact HB.out)⟩
         ·rw [if_neg c19] at H
          exact absurd H (by simp)
        ·rw [if_neg c18] at H
         exact absurd H (by simp)
       ·rw [if_neg c17] at H
        exact absurd H (by simp)
      ·rw [if_neg c16] at H
       have c16b0 : ((x4_1.length : Int) == 1) = false := beq_eq_false_iff_ne.mpr c16
       have c16b1 : ((x4_1.length : Int) != 1) = true := bne_iff_ne.mpr c16
       have H' := Aside0.mk H
       clear H
       obtain ⟨Ao24, co24, eo24⟩ := Kd.N_slice HO_4.out
       subst eo24
       go_wp2
       go_loopg [4, 7] k1 (fun kq v4 v7 w' => ∃ (x4_2 : List (S65)) (x5_2 : List Int) (x7_2 : Int), v7 = .int .i64 x7_2 ∧ Aside0 (haystackref11_Lengths.l1 kq x4_2 x5_2 x7_2 = some (r1, r2)) ∧ Aside0 (kq ≤ k1) ∧ Aside0 (Kd.N k65 65 w' w.heap.size (fun k_ => some k_ ≠ (v221 : Value).ownBlock) v4 x4_2) ∧ Aside0 (Kd.R (Kd.int .i64) 3 w' w.heap.size (fun _ => True) v221 x5_2) ∧ Aside0 (Below w.heap.size w w'))
       case atStart => exact ⟨(x4_1), (y220), (256), (by first | rfl | (simp; done) | (simp [*]; done)), H', ⟨Nat.le_refl _⟩, ⟨by (with_reducible repeat (first | apply Kd.N_alloc | apply Kd.N_drewN | apply Kd.N_drew)); exact HO_4.out⟩, ⟨by (with_reducible repeat (first | apply Kd.R_alloc | apply Kd.R_drewN | apply Kd.R_drew)); exact HO_5.out⟩, ⟨by repeat (first | (with_reducible first | exact HB.out | apply below_alloc | apply pw_below_drewN | apply below_drew1) | exact HB.out)⟩⟩
       case round =>
        clear H'
        try clear c1
        try clear c2
        try clear p2
        try clear q2
        try clear hx2
        try clear qi2
        try clear hf2
        try clear c3
        try clear c4
        try clear c4b0
        try clear c4b1
        try clear p6
        try clear c7
        try clear c7b0
        try clear c8
        try clear c8b0
        try clear c9
        try clear c9b0
        try clear c10
        try clear c10b0
        try clear c11
        try clear c16
        try clear c16b0
        try clear c16b1
        try clear c17
        try clear c17b0
        try clear c17b1
        try clear c18
        try clear c18b0
        try clear c19
        try clear c19b0
        try clear p20
        try clear q20
        try clear hx20
        try clear hf20
        try clear p22
        try clear q22
        try clear hx22
        try clear c23
        try clear p23
        try clear q23
        try clear hx23
        try clear qi23
        try clear hx20_0
        try clear hx223_0
        try clear hx224_0
        try clear hx231_0
        try clear hx231_1
        try clear hx231_2
        try clear p2
        try clear p20
        try clear p223
        try clear p224
        try clear p231
        try clear q20
        try clear q223
        try clear q224
        try clear q231
        obtain ⟨x4_2, x5_2, x7_2, rfl, HA, HK2, HO_4, HO_5, HB⟩ := hrel
        cases gk with
        | zero => exact absurd HA.out (by simp [haystackref11_Lengths.l1])
        | succ k2 =>
         have H := HA.out
         clear HA
         simp only [haystackref11_Lengths.l1] at H
         by_cases c25 : (x4_2.length : Int) > 1
         ·rw [if_pos c25] at H
          have c25b0 : decide (1 < (x4_2.length : Int)) = true := decide_eq_true c25
          have c25b0L_ := c25b0
          (try simp only [hl231_2] at c25b0L_)
          have c25b1 : decide (1 < x4_2.length) = true := decide_eq_true (by omega)
          have c25b1L_ := c25b1
          (try simp only [hl231_2] at c25b1L_)
          clear c25
          replace H := Option.bind_eq_some_iff.mp H
          obtain ⟨t233, A260, H⟩ := H
          replace H : (if 0 ≤ t233 then (if t233 < (x4_2.length : Int) then ((haystackref11_without.f x4_2 t233).bind fun t236 => ((haystackref11_least.f k2 t236).bind fun t239 => (if 0 ≤ t239 then (if t239 < (t236.length : Int) then ((haystackref11_without.f t236 t239).bind fun t242 => ((some (([] : List Int) : List Int)).bind fun y245 => (if y245.length + ((rd_T65 x4_2 t233).f2).length < 17592186044416 then ((some (y245 ++ ((rd_T65 x4_2 t233).f2) : List Int)).bind fun y248 => (if y248.length + ((rd_T65 t236 t239).f2).length < 17592186044416 then (haystackref11_Lengths.l2 k2 t242 x5_2 x7_2 (y248 ++ ((rd_T65 t236 t239).f2)) 0 ((rd_T65 x4_2 t233).f0) ((rd_T65 x4_2 t233).f1) ((rd_T65 x4_2 t233).f2) ((rd_T65 t236 t239).f0) ((rd_T65 t236 t239).f1) ((rd_T65 t236 t239).f2)) else (none))) else (none)))) else (none)) else (none)))) else (none)) else (none)) = some (r1, r2) := H
          have A26 := Aside0.mk A260
          clear A260
          by_cases c27 : 0 ≤ t233
          ·rw [if_pos c27] at H
           have c27b0 : decide (0 ≤ t233) = true := decide_eq_true c27
           clear c27
           by_cases c28 : t233 < (x4_2.length : Int)
           ·rw [if_pos c28] at H
            have c28b0 : decide (t233 < (x4_2.length : Int)) = true := decide_eq_true c28
            have c28b0L_ := c28b0
            (try simp only [hl231_2] at c28b0L_)
            clear c28
            replace H := Option.bind_eq_some_iff.mp H
            obtain ⟨t236, A290, H⟩ := H
            replace H : ((haystackref11_least.f k2 t236).bind fun t239 => (if 0 ≤ t239 then (if t239 < (t236.length : Int) then ((haystackref11_without.f t236 t239).bind fun t242 => ((some (([] : List Int) : List Int)).bind fun y245 => (if y245.length + ((rd_T65 x4_2 t233).f2).length < 17592186044416 then ((some (y245 ++ ((rd_T65 x4_2 t233).f2) : List Int)).bind fun y248 => (if y248.length + ((rd_T65 t236 t239).f2).length < 17592186044416 then (haystackref11_Lengths.l2 k2 t242 x5_2 x7_2 (y248 ++ ((rd_T65 t236 t239).f2)) 0 ((rd_T65 x4_2 t233).f0) ((rd_T65 x4_2 t233).f1) ((rd_T65 x4_2 t233).f2) ((rd_T65 t236 t239).f0) ((rd_T65 t236 t239).f1) ((rd_T65 t236 t239).f2)) else (none))) else (none)))) else (none)) else (none))) = some (r1, r2) := H
            have A29 := Aside0.mk A290
            clear A290
            replace H := Option.bind_eq_some_iff.mp H
            obtain ⟨t239, A300, H⟩ := H
            replace H : (if 0 ≤ t239 then (if t239 < (t236.length : Int) then ((haystackref11_without.f t236 t239).bind fun t242 => ((some (([] : List Int) : List Int)).bind fun y245 => (if y245.length + ((rd_T65 x4_2 t233).f2).length < 17592186044416 then ((some (y245 ++ ((rd_T65 x4_2 t233).f2) : List Int)).bind fun y248 => (if y248.length + ((rd_T65 t236 t239).f2).length < 17592186044416 then (haystackref11_Lengths.l2 k2 t242 x5_2 x7_2 (y248 ++ ((rd_T65 t236 t239).f2)) 0 ((rd_T65 x4_2 t233).f0) ((rd_T65 x4_2 t233).f1) ((rd_T65 x4_2 t233).f2) ((rd_T65 t236 t239).f0) ((rd_T65 t236 t239).f1) ((rd_T65 t236 t239).f2)) else (none))) else (none)))) else (none)) else (none)) = some (r1, r2) := H
            have A30 := Aside0.mk A300
            clear A300
            by_cases c31 : 0 ≤ t239
            ·rw [if_pos c31] at H
             have c31b0 : decide (0 ≤ t239) = true := decide_eq_true c31
             clear c31
             by_cases c32 : t239 < (t236.length : Int)
             ·rw [if_pos c32] at H
              have c32b0 : decide (t239 < (t236.length : Int)) = true := decide_eq_true c32
              have c32b0L_ := c32b0
              (try simp only [hl231_2] at c32b0L_)
              clear c32
              replace H := Option.bind_eq_some_iff.mp H
              obtain ⟨t242, A330, H⟩ := H
              replace H : ((some (([] : List Int) : List Int)).bind fun y245 => (if y245.length + ((rd_T65 x4_2 t233).f2).length < 17592186044416 then ((some (y245 ++ ((rd_T65 x4_2 t233).f2) : List Int)).bind fun y248 => (if y248.length + ((rd_T65 t236 t239).f2).length < 17592186044416 then (haystackref11_Lengths.l2 k2 t242 x5_2 x7_2 (y248 ++ ((rd_T65 t236 t239).f2)) 0 ((rd_T65 x4_2 t233).f0) ((rd_T65 x4_2 t233).f1) ((rd_T65 x4_2 t233).f2) ((rd_T65 t236 t239).f0) ((rd_T65 t236 t239).f1) ((rd_T65 t236 t239).f2)) else (none))) else (none))) = some (r1, r2) := H
              have A33 := Aside0.mk A330
              clear A330
              obtain ⟨y245, hy245⟩ : ∃ y_ : List Int, y_ = (([] : List Int)) := ⟨_, rfl⟩
              replace H : (if y245.length + ((rd_T65 x4_2 t233).f2).length < 17592186044416 then ((some (y245 ++ ((rd_T65 x4_2 t233).f2) : List Int)).bind fun y248 => (if y248.length + ((rd_T65 t236 t239).f2).length < 17592186044416 then (haystackref11_Lengths.l2 k2 t242 x5_2 x7_2 (y248 ++ ((rd_T65 t236 t239).f2)) 0 ((rd_T65 x4_2 t233).f0) ((rd_T65 x4_2 t233).f1) ((rd_T65 x4_2 t233).f2) ((rd_T65 t236 t239).f0) ((rd_T65 t236 t239).f1) ((rd_T65 t236 t239).f2)) else (none))) else (none)) = some (r1, r2) := by first | (rw [hy245]; with_reducible exact H) | (have H2_ := (Option.bind_some _ _).symm.trans H; rw [hy245]; with_reducible exact H2_) | (have H2_ := (Option.bind_some _ _).symm.trans H; with_reducible exact H2_) | with_reducible exact H | (rw [hy245]; exact H) | exact H
              have Ny245 := Aside0.mk hy245
              clear hy245
              by_cases c34 : y245.length + ((rd_T65 x4_2 t233).f2).length < 17592186044416
              ·rw [if_pos c34] at H
               have LMc34 := Aside0.mk c34
               clear c34
               obtain ⟨y248, hy248⟩ : ∃ y_ : List Int, y_ = (y245 ++ ((rd_T65 x4_2 t233).f2)) := ⟨_, rfl⟩
               replace H : (if y248.length + ((rd_T65 t236 t239).f2).length < 17592186044416 then (haystackref11_Lengths.l2 k2 t242 x5_2 x7_2 (y248 ++ ((rd_T65 t236 t239).f2)) 0 ((rd_T65 x4_2 t233).f0) ((rd_T65 x4_2 t233).f1) ((rd_T65 x4_2 t233).f2) ((rd_T65 t236 t239).f0) ((rd_T65 t236 t239).f1) ((rd_T65 t236 t239).f2)) else (none)) = some (r1, r2) := by first | (rw [hy248]; with_reducible exact H) | (have H2_ := (Option.bind_some _ _).symm.trans H; rw [hy248]; with_reducible exact H2_) | (have H2_ := (Option.bind_some _ _).symm.trans H; with_reducible exact H2_) | with_reducible exact H | (rw [hy248]; exact H) | exact H
               have Ny248 := Aside0.mk hy248
               clear hy248
               by_cases c35 : y248.length + ((rd_T65 t236 t239).f2).length < 17592186044416
               ·rw [if_pos c35] at H
                have LMc35 := Aside0.mk c35
                clear c35
                obtain ⟨y251, hy251⟩ : ∃ y_ : List Int, y_ = (y248 ++ ((rd_T65 t236 t239).f2)) := ⟨_, rfl⟩
                replace H : (haystackref11_Lengths.l2 k2 t242 x5_2 x7_2 y251 0 ((rd_T65 x4_2 t233).f0) ((rd_T65 x4_2 t233).f1) ((rd_T65 x4_2 t233).f2) ((rd_T65 t236 t239).f0) ((rd_T65 t236 t239).f1) ((rd_T65 t236 t239).f2)) = some (r1, r2) := by first | (rw [hy251]; with_reducible exact H) | (have H2_ := (Option.bind_some _ _).symm.trans H; rw [hy251]; with_reducible exact H2_) | (have H2_ := (Option.bind_some _ _).symm.trans H; with_reducible exact H2_) | with_reducible exact H | (rw [hy251]; exact H) | exact H
                have Ny251 := Aside0.mk hy251
                clear hy251
                have H' := Aside0.mk H
                clear H
                obtain ⟨Ao36, co36, eo36⟩ := Kd.N_slice HO_4.out
                subst eo36
                try go_wp2_with (first | ((with_reducible refine gate_callee (f := 27) rfl ?_); refine goesL_ (some 54) rfl rfl Try.func27 (by kernel_rfl) rfl #[.slice Ao36 x4_2.length co36] rfl (by (try simp only [List.map_toArray, List.map_cons, List.map_nil]); first | done | rfl | (simp only [List.length_drop, List.length_take]; rfl)) ?_; (with_reducible refine (haystackref11_least.calls k2 _ _ x4_2 t233 _ ?side1 ?side2 A26.out).mono ?_); (case side1 => repeat (first | exact (Kd.N_reads' HO_4.out).2.2 | (with_reducible refine Kd.C_alloc ?_ _) | (with_reducible refine Kd.C_drewN ?_ _) | (with_reducible refine Kd.C_drew ?_))); (case side2 => exact (Kd.N_reads' HO_4.out).2.1); rintro e w' ⟨rfl, ⟨nd, rfl⟩⟩; refine ⟨_, rfl, ?_⟩; (try (rw [drewN_self wr]; generalize hq_ : World.drewN wr _ = wr; have n0_ : Aside0 (Kd.N k65 65 wr w.heap.size (fun k_ => some k_ ≠ (v221 : Value).ownBlock) (.slice Ao36 x4_2.length co36) x4_2) := ⟨by rw [← hq_]; exact (by (with_reducible repeat (first | apply Kd.N_alloc | apply Kd.N_drewN | apply Kd.N_drew)); exact HO_4.out)⟩; have n1_ : Aside0 (Kd.R (Kd.int .i64) 3 wr w.heap.size (fun _ => True) v221 x5_2) := ⟨by rw [← hq_]; exact (by (with_reducible repeat (first | apply Kd.R_alloc | apply Kd.R_drewN | apply Kd.R_drew)); exact HO_5.out)⟩; have n2_ : Aside0 (Below w.heap.size w wr) := ⟨by rw [← hq_]; exact (by repeat (first | (with_reducible first | exact HB.out | apply below_alloc | apply pw_below_drewN | apply below_drew1) | exact HB.out))⟩; clear HO_4 HO_5 HB hq_; have HO_4 := n0_; have HO_5 := n1_; have HB := n2_; clear n0_ n1_ n2_)); have p234 : 0 ≤ (t233 : Int) := of_decide_eq_true (by first | (with_reducible assumption) | assumption); have q234 : t233 < (x4_2.length : Int) := of_decide_eq_true (by first | (with_reducible assumption) | assumption); obtain ⟨ad234, A234_2, c234_2, e234, hx234_0, hx234_1, hx234_2, hl234_2, hi234_2⟩ := at_T65 (Kd.N_reads' HO_4.out).2.2 t233 p234 q234; cases e234; obtain ⟨ce234, hce234, hMe234, hcc234⟩ := Kd.N_get HO_4.out z65 t233 p234 (by first | exact q234 | exact of_decide_eq_true (by first | (with_reducible assumption) | assumption) | (have e_ := (Kd.N_reads' HO_4.out).1; omega)); obtain ⟨ua234_2, uc234_2, rfl, ul234_2, ge234_2⟩ := k65_openF hMe234; have hv234_2 := hcc234 2 _ rfl; rw [add_field _ _ 2 (by omega)] at hv234_2; replace hv234_2 := Option.some.inj (hv234_2.symm.trans hx234_2); injection hv234_2 with hva_ hvn_ hvc_; rw [hva_] at ge234_2; rw [hvc_] at ul234_2; have HL234_2 := Aside0.mk (show Kd.V (Kd.int .i64) 3 _ w.heap.size _ _ ((rd_T65 x4_2 t233).f2) from Kd.V_mk ul234_2 ge234_2); clear hva_ hvn_ hvc_ ge234_2 ul234_2; clear hcc234 hce234; have HR234_2 := Aside0.mk hi234_2; have HC234_2 := Aside0.mk hl234_2; clear hi234_2 hl234_2; replace p234 := eq_true p234; replace q234 := eq_true q234) | ((with_reducible refine gate_dst (N := 9) rfl ?_); refine box_event ?hg (N := 9) ?hd (cs := #[.int .i64 0, .int .i64 0, .slice none 0 0]) (t := 65) ?hr ?_; (case hd => rfl); (case hg => rfl); (case hr => first | (go_simp; done) | (go_simp; rfl)); intro gb235 hg w37 hbox hb; have n0_ := Aside0.mk (Kd.N_below (Kd.N_elderB (by (with_reducible repeat (first | apply Kd.N_alloc | apply Kd.N_drewN | apply Kd.N_drew)); exact HO_4.out) gb235 (Nat.le_of_eq hg.symm)) hb); have n1_ := Aside0.mk (Kd.R_below (by (with_reducible repeat (first | apply Kd.R_alloc | apply Kd.R_drewN | apply Kd.R_drew)); exact HO_5.out) hb); have n2_ := Aside0.mk (Kd.V_below (Kd.V_elderB (by (with_reducible repeat (first | apply Kd.V_alloc | apply Kd.V_drewN | apply Kd.V_drew)); exact HL234_2.out) gb235 (Nat.le_of_eq hg.symm)) hb); (first | have n3_ := Aside0.mk (Kd.C_below (by repeat (first | (with_reducible exact HR234_2.out) | (with_reducible refine Kd.C_alloc ?_ _) | (with_reducible refine Kd.C_drewN ?_ _) | (with_reducible refine Kd.C_drew ?_) | exact HR234_2.out)) hb) | have n3_ := Aside0.mk (Kd.V_reads' n2_.out).2.2); have n4_ := Aside0.mk (below_step (by repeat (first | (with_reducible first | exact HB.out | apply below_alloc | apply pw_below_drewN | apply below_drew1) | exact HB.out)) hb); have n5_ := Aside0.mk (hbox); have n6_ := Aside0.mk ((by rw [hg]; exact (below_size (by repeat (first | (with_reducible first | exact HB.out | apply below_alloc | apply pw_below_drewN | apply below_drew1) | exact HB.out))) : w.heap.size ≤ gb235)); have n7_ := Aside0.mk ((by rw [hg]; exact (below_size (by repeat (first | (with_reducible first | exact HB.out | apply below_alloc | apply pw_below_drewN | apply below_drew1) | exact HB.out))) : w.heap.size ≤ gb235)); clear HO_4; clear HO_5; clear HL234_2; clear HR234_2; clear HB; have HO_4 := n0_; have HO_5 := n1_; have HL234_2 := n2_; have HR234_2 := n3_; have HB := n4_; have BK235 := n5_; have GW235 := n6_; have GE235 := n7_; clear n0_ n1_ n2_ n3_ n4_ n5_ n6_ n7_; clear hb hbox hg; have hcz38_0 : w37.cell? ⟨gb235, 0, none⟩ = some (.int .i64 0) := (blk_cell BK235.out 0).trans rfl; have hcz38_1 : w37.cell? ⟨gb235, 1, none⟩ = some (.int .i64 0) := (blk_cell BK235.out 1).trans rfl; have hcz38_2 : w37.cell? ⟨gb235, 2, none⟩ = some (.slice none 0 0) := (blk_cell BK235.out 2).trans rfl; have hfz38_0 := blk_frozen BK235.out 0; have hfz38_1 := blk_frozen BK235.out 1; have hfz38_2 := blk_frozen BK235.out 2) | ((with_reducible refine gate_store (t := 65) (p := 9) rfl ?_); refine store_event (t := 65) (p := 9) (v := ?vo_w39) (w1 := (((w37.setCell ⟨gb235, 0, none⟩ (.int .i64 ((rd_T65 x4_2 t233).f0))).setCell ⟨gb235, 1, none⟩ (.int .i64 ((rd_T65 x4_2 t233).f1))).setCell ⟨gb235, 2, none⟩ (.slice A234_2 ((rd_T65 x4_2 t233).f2).length c234_2))) ?hg ?ho ?hn ?hr ?_; (case ho => rfl); (case hg => rfl); (case hn => rfl); (case hr => first | (go_simp; done) | (go_simp; rfl)); intro w39 hw; have n0_ : Aside0 (Kd.N k65 65 w39 w.heap.size (fun k_ => some k_ ≠ (v221 : Value).ownBlock ∧ k_ ≠ gb235) (.slice (some ad234) x4_2.length co36) x4_2) := ⟨(by rw [hw]; exact (by (with_reducible repeat (first | apply Kd.N_alloc | apply Kd.N_drewN | apply Kd.N_drew)); exact Kd.N_mono (Kd.N_far (p := ⟨gb235, 2, none⟩) (Kd.N_far (p := ⟨gb235, 1, none⟩) (Kd.N_far (p := ⟨gb235, 0, none⟩) (Kd.N_mono HO_4.out (fun k_ hk => (⟨hk, hk.2⟩ : _ ∧ k_ ≠ gb235))) (fun _ hk => hk.2) (.int .i64 ((rd_T65 x4_2 t233).f0))) (fun _ hk => hk.2) (.int .i64 ((rd_T65 x4_2 t233).f1))) (fun _ hk => hk.2) (.slice A234_2 ((rd_T65 x4_2 t233).f2).length c234_2)) (fun _ hk => by first | exact ⟨hk.1.1, hk.1.2⟩ | simp only [ne_eq, hk, not_false_eq_true, and_self])))⟩; have n1_ : Aside0 (Kd.R (Kd.int .i64) 3 w39 w.heap.size (fun _ => True) v221 x5_2) := ⟨(by rw [hw]; exact (by (with_reducible repeat (first | apply Kd.R_alloc | apply Kd.R_drewN | apply Kd.R_drew)); exact Kd.R_mono (Kd.R_far (p := ⟨gb235, 2, none⟩) (Kd.R_far (p := ⟨gb235, 1, none⟩) (Kd.R_far (p := ⟨gb235, 0, none⟩) (Kd.R_types HO_5.out BK235.out (by decide)) (fun _ hk => hk.2) (.int .i64 ((rd_T65 x4_2 t233).f0))) (fun _ hk => hk.2) (.int .i64 ((rd_T65 x4_2 t233).f1))) (fun _ hk => hk.2) (.slice A234_2 ((rd_T65 x4_2 t233).f2).length c234_2)) (fun _ hk => trivial)))⟩; have n2_ : Aside0 (Kd.V (Kd.int .i64) 3 w39 w.heap.size (fun k_ => some k_ ≠ (.slice (some ad234) x4_2.length co36 : Value).ownBlock ∧ some k_ ≠ (v221 : Value).ownBlock ∧ k_ ≠ gb235) (.slice A234_2 ((rd_T65 x4_2 t233).f2).length c234_2) ((rd_T65 x4_2 t233).f2)) := ⟨(by rw [hw]; exact (by (with_reducible repeat (first | apply Kd.V_alloc | apply Kd.V_drewN | apply Kd.V_drew)); exact Kd.V_mono (Kd.V_far (p := ⟨gb235, 2, none⟩) (Kd.V_far (p := ⟨gb235, 1, none⟩) (Kd.V_far (p := ⟨gb235, 0, none⟩) (Kd.V_mono HL234_2.out (fun k_ hk => (⟨hk, hk.2⟩ : _ ∧ k_ ≠ gb235))) (fun _ hk => hk.2) (.int .i64 ((rd_T65 x4_2 t233).f0))) (fun _ hk => hk.2) (.int .i64 ((rd_T65 x4_2 t233).f1))) (fun _ hk => hk.2) (.slice A234_2 ((rd_T65 x4_2 t233).f2).length c234_2)) (fun _ hk => by first | exact ⟨hk.1.1.2, ⟨hk.1.1.1, hk.1.2⟩⟩ | simp only [ne_eq, hk, not_false_eq_true, and_self])))⟩; have n3_ : Aside0 (w39.heap[gb235]? = some (.cells #[.int .i64 ((rd_T65 x4_2 t233).f0), .int .i64 ((rd_T65 x4_2 t233).f1), .slice A234_2 ((rd_T65 x4_2 t233).f2).length c234_2] 65 (0, 0))) := ⟨(by rw [hw]; exact (by (with_reducible repeat (first | refine blk_drewN ?_ _ | refine blk_drew ?_ | refine blk_alloc ?_ _)); refine blk_put (cs := #[.int .i64 ((rd_T65 x4_2 t233).f0), .int .i64 ((rd_T65 x4_2 t233).f1), .slice none 0 0]) ?_ 2 _ rfl; (with_reducible repeat (first | refine blk_drewN ?_ _ | refine blk_drew ?_ | refine blk_alloc ?_ _)); refine blk_put (cs := #[.int .i64 ((rd_T65 x4_2 t233).f0), .int .i64 0, .slice none 0 0]) ?_ 1 _ rfl; (with_reducible repeat (first | refine blk_drewN ?_ _ | refine blk_drew ?_ | refine blk_alloc ?_ _)); refine blk_put (cs := #[.int .i64 0, .int .i64 0, .slice none 0 0]) ?_ 0 _ rfl; (with_reducible repeat (first | refine blk_drewN ?_ _ | refine blk_drew ?_ | refine blk_alloc ?_ _)); exact BK235.out))⟩; have n4_ : Aside0 (Below w.heap.size w w39) := ⟨(by rw [hw]; exact (by repeat (first | (with_reducible first | exact HB.out | apply below_alloc | apply pw_below_drewN | apply below_drew1 | refine below_set ?_ GE235.out) | exact HB.out)))⟩; clear hw; clear HO_4; clear HO_5; clear HL234_2; clear BK235; clear HB; have HO_4 := n0_; have HO_5 := n1_; have HL234_2 := n2_; have BK235 := n3_; have HB := n4_; clear n0_ n1_ n2_ n3_ n4_) | ((with_reducible refine gate_callee (f := 28) rfl ?_); refine goesL_ (some 61) rfl rfl Try.func28 (by kernel_rfl) rfl #[.slice (some ad234) x4_2.length co36, .int .i64 t233] rfl (by (try simp only [List.map_toArray, List.map_cons, List.map_nil]); first | done | rfl | (simp only [List.length_drop, List.length_take]; rfl)) ?_; (with_reducible refine (haystackref11_without.calls (fun k_ => (some k_ ≠ (v221 : Value).ownBlock ∧ k_ ≠ gb235)) _ _ x4_2 t233 t236 _ ?side1 A29.out).mono ?_); (case side1 => exact Kd.N_V (HO_4.out)); rintro e w40 ⟨v237, rfl, ho0, hb⟩; refine ⟨_, rfl, ?_⟩; have n0_ := Aside0.mk (Kd.N_elder' (by (with_reducible repeat (first | apply Kd.N_alloc | apply Kd.N_drewN | apply Kd.N_drew)); exact HO_4.out) (Kd.N_base ho0) hb); have n1_ := Aside0.mk (Kd.R_below (by (with_reducible repeat (first | apply Kd.R_alloc | apply Kd.R_drewN | apply Kd.R_drew)); exact HO_5.out) hb); have n2_ := Aside0.mk (Kd.V_elder' (by (with_reducible repeat (first | apply Kd.V_alloc | apply Kd.V_drewN | apply Kd.V_drew)); exact HL234_2.out) (Kd.N_base ho0) hb); have n3_ := Aside0.mk (Kd.N_lower (Kd.N_mono (ok' := fun k_ => some k_ ≠ (v221 : Value).ownBlock ∧ k_ ≠ gb235) ho0 (fun k_ hk_ => ⟨Or.elim hk_ (fun hs_ => hs_.1) (fun hn_ => (Kd.fresh' (Kd.R_lt (by (with_reducible repeat (first | apply Kd.R_alloc | apply Kd.R_drewN | apply Kd.R_drew)); exact HO_5.out)) k_ hn_)), Or.elim hk_ (fun hs_ => hs_.2) (fun hn_ => (Kd.freshB (g := gb235) (o := .cells #[.int .i64 ((rd_T65 x4_2 t233).f0), .int .i64 ((rd_T65 x4_2 t233).f1), .slice A234_2 ((rd_T65 x4_2 t233).f2).length c234_2] 65 (0, 0)) (by (with_reducible repeat (first | refine blk_drewN ?_ _ | refine blk_drew ?_ | refine blk_alloc ?_ _)); exact BK235.out) k_ hn_))⟩)) (below_size (by repeat (first | (with_reducible first | exact HB.out | apply below_alloc | apply pw_below_drewN | apply below_drew1 | refine below_set ?_ GE235.out) | exact HB.out)))); (first | have n4_ := Aside0.mk (Kd.C_below (by repeat (first | (with_reducible exact HR234_2.out) | (with_reducible refine Kd.C_alloc ?_ _) | (with_reducible refine Kd.C_drewN ?_ _) | (with_reducible refine Kd.C_drew ?_) | exact HR234_2.out)) hb) | have n4_ := Aside0.mk (Kd.V_reads' n2_.out).2.2); have n5_ := Aside0.mk (blk_below (g := gb235) (o := .cells #[.int .i64 ((rd_T65 x4_2 t233).f0), .int .i64 ((rd_T65 x4_2 t233).f1), .slice A234_2 ((rd_T65 x4_2 t233).f2).length c234_2] 65 (0, 0)) (by (with_reducible repeat (first | refine blk_drewN ?_ _ | refine blk_drew ?_ | refine blk_alloc ?_ _)); exact BK235.out) hb); have n6_ := Aside0.mk (below_step (by repeat (first | (with_reducible first | exact HB.out | apply below_alloc | apply pw_below_drewN | apply below_drew1 | refine below_set ?_ GE235.out) | exact HB.out)) hb); clear HO_4; clear HO_5; clear HL234_2; clear HR234_2; clear BK235; clear HB; have HO_4 := n0_; have HO_5 := n1_; have HL234_2 := n2_; have HO238 := n3_; have HR234_2 := n4_; have BK235 := n5_; have HB := n6_; clear n0_ n1_ n2_ n3_ n4_ n5_ n6_; (try clear hb); (try clear hb2); (try clear hk); (try clear hi); (try clear ho0); obtain ⟨Ao41, co41, eo41⟩ := Kd.N_slice HO238.out; subst eo41) | ((with_reducible refine gate_callee (f := 27) rfl ?_); refine goesL_ (some 63) rfl rfl Try.func27 (by kernel_rfl) rfl #[.slice Ao41 t236.length co41] rfl (by (try simp only [List.map_toArray, List.map_cons, List.map_nil]); first | done | rfl | (simp only [List.length_drop, List.length_take]; rfl)) ?_; (with_reducible refine (haystackref11_least.calls k2 _ _ t236 t239 _ ?side1 ?side2 A30.out).mono ?_); (case side1 => repeat (first | exact (Kd.N_reads' HO238.out).2.2 | (with_reducible refine Kd.C_alloc ?_ _) | (with_reducible refine Kd.C_drewN ?_ _) | (with_reducible refine Kd.C_drew ?_))); (case side2 => exact (Kd.N_reads' HO238.out).2.1); rintro e w' ⟨rfl, ⟨nd, rfl⟩⟩; refine ⟨_, rfl, ?_⟩; (try (rw [drewN_self w40]; generalize hq_ : World.drewN w40 _ = w40; have n0_ : Aside0 (Kd.V (Kd.int .i64) 3 w40 w.heap.size (fun k_ => some k_ ≠ (.slice Ao41 t236.length co41 : Value).ownBlock ∧ some k_ ≠ (.slice (some ad234) x4_2.length co36 : Value).ownBlock ∧ some k_ ≠ (v221 : Value).ownBlock ∧ k_ ≠ gb235) (.slice A234_2 ((rd_T65 x4_2 t233).f2).length c234_2) ((rd_T65 x4_2 t233).f2)) := ⟨by rw [← hq_]; exact (by (with_reducible repeat (first | apply Kd.V_alloc | apply Kd.V_drewN | apply Kd.V_drew)); exact Kd.V_mono HL234_2.out (fun _ hk => by first | exact ⟨hk.2, ⟨hk.1.1, ⟨hk.1.2.1, hk.1.2.2⟩⟩⟩ | simp only [ne_eq, hk, not_false_eq_true, and_self]))⟩; have n1_ : Aside0 (Kd.N k65 65 w40 w.heap.size (fun k_ => some k_ ≠ (v221 : Value).ownBlock ∧ k_ ≠ gb235) (.slice Ao41 t236.length co41) t236) := ⟨by rw [← hq_]; exact (by (with_reducible repeat (first | apply Kd.N_alloc | apply Kd.N_drewN | apply Kd.N_drew)); exact HO238.out)⟩; have n2_ : Aside0 (Kd.N k65 65 w40 w.heap.size (fun k_ => some k_ ≠ (.slice Ao41 t236.length co41 : Value).ownBlock ∧ some k_ ≠ (v221 : Value).ownBlock ∧ k_ ≠ gb235) (.slice (some ad234) x4_2.length co36) x4_2) := ⟨by rw [← hq_]; exact (by (with_reducible repeat (first | apply Kd.N_alloc | apply Kd.N_drewN | apply Kd.N_drew)); exact Kd.N_mono HO_4.out (fun _ hk => by first | exact ⟨hk.2, ⟨hk.1.1, hk.1.2⟩⟩ | simp only [ne_eq, hk, not_false_eq_true, and_self]))⟩; have n3_ : Aside0 (Kd.R (Kd.int .i64) 3 w40 w.heap.size (fun _ => True) v221 x5_2) := ⟨by rw [← hq_]; exact (by (with_reducible repeat (first | apply Kd.R_alloc | apply Kd.R_drewN | apply Kd.R_drew)); exact HO_5.out)⟩; have n4_ : Aside0 (w40.heap[gb235]? = some (.cells #[.int .i64 ((rd_T65 x4_2 t233).f0), .int .i64 ((rd_T65 x4_2 t233).f1), .slice A234_2 ((rd_T65 x4_2 t233).f2).length c234_2] 65 (0, 0))) := ⟨by rw [← hq_]; exact (by (with_reducible repeat (first | refine blk_drewN ?_ _ | refine blk_drew ?_ | refine blk_alloc ?_ _)); exact BK235.out)⟩; have n5_ : Aside0 (Below w.heap.size w w40) := ⟨by rw [← hq_]; exact (by repeat (first | (with_reducible first | exact HB.out | apply below_alloc | apply pw_below_drewN | apply below_drew1 | refine below_set ?_ GE235.out) | exact HB.out))⟩; have n6_ : Aside0 (Kd.C (Kd.int .i64) w40 A234_2 ((rd_T65 x4_2 t233).f2).length ((rd_T65 x4_2 t233).f2)) := ⟨by rw [← hq_]; exact (by repeat (first | (with_reducible exact HR234_2.out) | (with_reducible refine Kd.C_alloc ?_ _) | (with_reducible refine Kd.C_drewN ?_ _) | (with_reducible refine Kd.C_drew ?_) | exact HR234_2.out))⟩; clear HL234_2 HO238 HO_4 HO_5 BK235 HB HR234_2 hq_; have HL234_2 := n0_; have HO238 := n1_; have HO_4 := n2_; have HO_5 := n3_; have BK235 := n4_; have HB := n5_; have HR234_2 := n6_; clear n0_ n1_ n2_ n3_ n4_ n5_ n6_)); have p240 : 0 ≤ (t239 : Int) := of_decide_eq_true (by first | (with_reducible assumption) | assumption); have q240 : t239 < (t236.length : Int) := of_decide_eq_true (by first | (with_reducible assumption) | assumption); obtain ⟨ad240, A240_2, c240_2, e240, hx240_0, hx240_1, hx240_2, hl240_2, hi240_2⟩ := at_T65 (Kd.N_reads' HO238.out).2.2 t239 p240 q240; cases e240; obtain ⟨ce240, hce240, hMe240, hcc240⟩ := Kd.N_get HO238.out z65 t239 p240 (by first | exact q240 | exact of_decide_eq_true (by first | (with_reducible assumption) | assumption) | (have e_ := (Kd.N_reads' HO238.out).1; omega)); obtain ⟨ua240_2, uc240_2, rfl, ul240_2, ge240_2⟩ := k65_openF hMe240; have hv240_2 := hcc240 2 _ rfl; rw [add_field _ _ 2 (by omega)] at hv240_2; replace hv240_2 := Option.some.inj (hv240_2.symm.trans hx240_2); injection hv240_2 with hva_ hvn_ hvc_; rw [hva_] at ge240_2; rw [hvc_] at ul240_2; have HL240_2 := Aside0.mk (show Kd.V (Kd.int .i64) 3 _ w.heap.size _ _ ((rd_T65 t236 t239).f2) from Kd.V_mk ul240_2 ge240_2); clear hva_ hvn_ hvc_ ge240_2 ul240_2; clear hcc240 hce240; have HR240_2 := Aside0.mk hi240_2; have HC240_2 := Aside0.mk hl240_2; clear hi240_2 hl240_2; replace p240 := eq_true p240; replace q240 := eq_true q240) | ((with_reducible refine gate_dst (N := 11) rfl ?_); refine box_event ?hg (N := 11) ?hd (cs := #[.int .i64 0, .int .i64 0, .slice none 0 0]) (t := 65) ?hr ?_; (case hd => rfl); (case hg => rfl); (case hr => first | (go_simp; done) | (go_simp; rfl)); intro gb241 hg w42 hbox hb; have n0_ := Aside0.mk (Kd.N_below (Kd.N_elderB (by (with_reducible repeat (first | apply Kd.N_alloc | apply Kd.N_drewN | apply Kd.N_drew)); exact HO_4.out) gb241 (Nat.le_of_eq hg.symm)) hb); have n1_ := Aside0.mk (Kd.R_below (by (with_reducible repeat (first | apply Kd.R_alloc | apply Kd.R_drewN | apply Kd.R_drew)); exact HO_5.out) hb); have n2_ := Aside0.mk (Kd.V_below (Kd.V_elderB (by (with_reducible repeat (first | apply Kd.V_alloc | apply Kd.V_drewN | apply Kd.V_drew)); exact HL234_2.out) gb241 (Nat.le_of_eq hg.symm)) hb); have n3_ := Aside0.mk (Kd.N_below (Kd.N_elderB (by (with_reducible repeat (first | apply Kd.N_alloc | apply Kd.N_drewN | apply Kd.N_drew)); exact HO238.out) gb241 (Nat.le_of_eq hg.symm)) hb); have n4_ := Aside0.mk (Kd.V_below (Kd.V_elderB (by (with_reducible repeat (first | apply Kd.V_alloc | apply Kd.V_drewN | apply Kd.V_drew)); exact HL240_2.out) gb241 (Nat.le_of_eq hg.symm)) hb); (first | have n5_ := Aside0.mk (Kd.C_below (by repeat (first | (with_reducible exact HR234_2.out) | (with_reducible refine Kd.C_alloc ?_ _) | (with_reducible refine Kd.C_drewN ?_ _) | (with_reducible refine Kd.C_drew ?_) | exact HR234_2.out)) hb) | have n5_ := Aside0.mk (Kd.V_reads' n2_.out).2.2); have n6_ := Aside0.mk (blk_below (g := gb235) (o := .cells #[.int .i64 ((rd_T65 x4_2 t233).f0), .int .i64 ((rd_T65 x4_2 t233).f1), .slice A234_2 ((rd_T65 x4_2 t233).f2).length c234_2] 65 (0, 0)) (by (with_reducible repeat (first | refine blk_drewN ?_ _ | refine blk_drew ?_ | refine blk_alloc ?_ _)); exact BK235.out) hb); (first | have n7_ := Aside0.mk (Kd.C_below (by repeat (first | (with_reducible exact HR240_2.out) | (with_reducible refine Kd.C_alloc ?_ _) | (with_reducible refine Kd.C_drewN ?_ _) | (with_reducible refine Kd.C_drew ?_) | exact HR240_2.out)) hb) | have n7_ := Aside0.mk (Kd.V_reads' n4_.out).2.2); have n8_ := Aside0.mk (below_step (by repeat (first | (with_reducible first | exact HB.out | apply below_alloc | apply pw_below_drewN | apply below_drew1 | refine below_set ?_ GE235.out) | exact HB.out)) hb); have n9_ := Aside0.mk (hbox); have n10_ := Aside0.mk ((by rw [hg]; exact (below_size (by repeat (first | (with_reducible first | exact HB.out | apply below_alloc | apply pw_below_drewN | apply below_drew1 | refine below_set ?_ GE235.out) | exact HB.out))) : w.heap.size ≤ gb241)); have n11_ := Aside0.mk ((by rw [hg]; exact (below_size (by repeat (first | (with_reducible first | exact HB.out | apply below_alloc | apply pw_below_drewN | apply below_drew1 | refine below_set ?_ GE235.out) | exact HB.out))) : w.heap.size ≤ gb241)); have n12_ := Aside0.mk ((by rw [hg]; exact Nat.ne_of_lt (blk_lt (g := gb235) (o := .cells #[.int .i64 ((rd_T65 x4_2 t233).f0), .int .i64 ((rd_T65 x4_2 t233).f1), .slice A234_2 ((rd_T65 x4_2 t233).f2).length c234_2] 65 (0, 0)) (by (with_reducible repeat (first | refine blk_drewN ?_ _ | refine blk_drew ?_ | refine blk_alloc ?_ _)); exact BK235.out)) : gb235 ≠ gb241)); have n13_ := Aside0.mk ((by rw [hg]; exact Nat.ne_of_gt (blk_lt (g := gb235) (o := .cells #[.int .i64 ((rd_T65 x4_2 t233).f0), .int .i64 ((rd_T65 x4_2 t233).f1), .slice A234_2 ((rd_T65 x4_2 t233).f2).length c234_2] 65 (0, 0)) (by (with_reducible repeat (first | refine blk_drewN ?_ _ | refine blk_drew ?_ | refine blk_alloc ?_ _)); exact BK235.out)) : gb241 ≠ gb235)); clear HO_4; clear HO_5; clear HL234_2; clear HO238; clear HL240_2; clear HR234_2; clear BK235; clear HR240_2; clear HB; have HO_4 := n0_; have HO_5 := n1_; have HL234_2 := n2_; have HO238 := n3_; have HL240_2 := n4_; have HR234_2 := n5_; have BK235 := n6_; have HR240_2 := n7_; have HB := n8_; have BK241 := n9_; have GW241 := n10_; have GE241 := n11_; have NB235_241 := n12_; have NB241_235 := n13_; clear n0_ n1_ n2_ n3_ n4_ n5_ n6_ n7_ n8_ n9_ n10_ n11_ n12_ n13_; clear hb hbox hg; have hnb43 := NB241_235.out; have hnc43 := NB235_241.out; have hcz44_0 : w42.cell? ⟨gb241, 0, none⟩ = some (.int .i64 0) := (blk_cell BK241.out 0).trans rfl; have hcz44_1 : w42.cell? ⟨gb241, 1, none⟩ = some (.int .i64 0) := (blk_cell BK241.out 1).trans rfl; have hcz44_2 : w42.cell? ⟨gb241, 2, none⟩ = some (.slice none 0 0) := (blk_cell BK241.out 2).trans rfl; have hfz44_0 := blk_frozen BK241.out 0; have hfz44_1 := blk_frozen BK241.out 1; have hfz44_2 := blk_frozen BK241.out 2) | ((with_reducible refine gate_store (t := 65) (p := 11) rfl ?_); refine store_event (t := 65) (p := 11) (v := ?vo_w45) (w1 := (((w42.setCell ⟨gb241, 0, none⟩ (.int .i64 ((rd_T65 t236 t239).f0))).setCell ⟨gb241, 1, none⟩ (.int .i64 ((rd_T65 t236 t239).f1))).setCell ⟨gb241, 2, none⟩ (.slice A240_2 ((rd_T65 t236 t239).f2).length c240_2))) ?hg ?ho ?hn ?hr ?_; (case ho => rfl); (case hg => rfl); (case hn => rfl); (case hr => first | (go_simp; done) | (go_simp; rfl)); intro w45 hw; have n0_ : Aside0 (Kd.N k65 65 w45 w.heap.size (fun k_ => some k_ ≠ (v221 : Value).ownBlock ∧ some k_ ≠ (.slice (some ad240) t236.length co41 : Value).ownBlock ∧ k_ ≠ gb235 ∧ k_ ≠ gb241) (.slice (some ad234) x4_2.length co36) x4_2) := ⟨(by rw [hw]; exact (by (with_reducible repeat (first | apply Kd.N_alloc | apply Kd.N_drewN | apply Kd.N_drew)); exact Kd.N_mono (Kd.N_far (p := ⟨gb241, 2, none⟩) (Kd.N_far (p := ⟨gb241, 1, none⟩) (Kd.N_far (p := ⟨gb241, 0, none⟩) (Kd.N_mono HO_4.out (fun k_ hk => (⟨hk, hk.2⟩ : _ ∧ k_ ≠ gb241))) (fun _ hk => hk.2) (.int .i64 ((rd_T65 t236 t239).f0))) (fun _ hk => hk.2) (.int .i64 ((rd_T65 t236 t239).f1))) (fun _ hk => hk.2) (.slice A240_2 ((rd_T65 t236 t239).f2).length c240_2)) (fun _ hk => by first | exact ⟨hk.1.1.1.1, ⟨hk.1.1.2, ⟨hk.1.1.1.2, hk.1.2⟩⟩⟩ | simp only [ne_eq, hk, not_false_eq_true, and_self])))⟩; have n1_ : Aside0 (Kd.R (Kd.int .i64) 3 w45 w.heap.size (fun _ => True) v221 x5_2) := ⟨(by rw [hw]; exact (by (with_reducible repeat (first | apply Kd.R_alloc | apply Kd.R_drewN | apply Kd.R_drew)); exact Kd.R_mono (Kd.R_far (p := ⟨gb241, 2, none⟩) (Kd.R_far (p := ⟨gb241, 1, none⟩) (Kd.R_far (p := ⟨gb241, 0, none⟩) (Kd.R_types HO_5.out BK241.out (by decide)) (fun _ hk => hk.2) (.int .i64 ((rd_T65 t236 t239).f0))) (fun _ hk => hk.2) (.int .i64 ((rd_T65 t236 t239).f1))) (fun _ hk => hk.2) (.slice A240_2 ((rd_T65 t236 t239).f2).length c240_2)) (fun _ hk => trivial)))⟩; have n2_ : Aside0 (Kd.V (Kd.int .i64) 3 w45 w.heap.size (fun k_ => some k_ ≠ (.slice (some ad234) x4_2.length co36 : Value).ownBlock ∧ some k_ ≠ (v221 : Value).ownBlock ∧ some k_ ≠ (.slice (some ad240) t236.length co41 : Value).ownBlock ∧ k_ ≠ gb235 ∧ k_ ≠ gb241) (.slice A234_2 ((rd_T65 x4_2 t233).f2).length c234_2) ((rd_T65 x4_2 t233).f2)) := ⟨(by rw [hw]; exact (by (with_reducible repeat (first | apply Kd.V_alloc | apply Kd.V_drewN | apply Kd.V_drew)); exact Kd.V_mono (Kd.V_far (p := ⟨gb241, 2, none⟩) (Kd.V_far (p := ⟨gb241, 1, none⟩) (Kd.V_far (p := ⟨gb241, 0, none⟩) (Kd.V_mono HL234_2.out (fun k_ hk => (⟨hk, hk.2⟩ : _ ∧ k_ ≠ gb241))) (fun _ hk => hk.2) (.int .i64 ((rd_T65 t236 t239).f0))) (fun _ hk => hk.2) (.int .i64 ((rd_T65 t236 t239).f1))) (fun _ hk => hk.2) (.slice A240_2 ((rd_T65 t236 t239).f2).length c240_2)) (fun _ hk => by first | exact ⟨hk.1.1.1.1, ⟨hk.1.1.1.2.1, ⟨hk.1.1.2, ⟨hk.1.1.1.2.2, hk.1.2⟩⟩⟩⟩ | simp only [ne_eq, hk, not_false_eq_true, and_self])))⟩; have n3_ : Aside0 (Kd.N k65 65 w45 w.heap.size (fun k_ => some k_ ≠ (v221 : Value).ownBlock ∧ k_ ≠ gb235 ∧ k_ ≠ gb241) (.slice (some ad240) t236.length co41) t236) := ⟨(by rw [hw]; exact (by (with_reducible repeat (first | apply Kd.N_alloc | apply Kd.N_drewN | apply Kd.N_drew)); exact Kd.N_mono (Kd.N_far (p := ⟨gb241, 2, none⟩) (Kd.N_far (p := ⟨gb241, 1, none⟩) (Kd.N_far (p := ⟨gb241, 0, none⟩) (Kd.N_mono HO238.out (fun k_ hk => (⟨hk, hk.2⟩ : _ ∧ k_ ≠ gb241))) (fun _ hk => hk.2) (.int .i64 ((rd_T65 t236 t239).f0))) (fun _ hk => hk.2) (.int .i64 ((rd_T65 t236 t239).f1))) (fun _ hk => hk.2) (.slice A240_2 ((rd_T65 t236 t239).f2).length c240_2)) (fun _ hk => by first | exact ⟨hk.1.1.1, ⟨hk.1.1.2, hk.1.2⟩⟩ | simp only [ne_eq, hk, not_false_eq_true, and_self])))⟩; have n4_ : Aside0 (Kd.V (Kd.int .i64) 3 w45 w.heap.size (fun k_ => some k_ ≠ (v221 : Value).ownBlock ∧ some k_ ≠ (.slice (some ad240) t236.length co41 : Value).ownBlock ∧ k_ ≠ gb235 ∧ k_ ≠ gb241) (.slice A240_2 ((rd_T65 t236 t239).f2).length c240_2) ((rd_T65 t236 t239).f2)) := ⟨(by rw [hw]; exact (by (with_reducible repeat (first | apply Kd.V_alloc | apply Kd.V_drewN | apply Kd.V_drew)); exact Kd.V_mono (Kd.V_far (p := ⟨gb241, 2, none⟩) (Kd.V_far (p := ⟨gb241, 1, none⟩) (Kd.V_far (p := ⟨gb241, 0, none⟩) (Kd.V_mono HL240_2.out (fun k_ hk => (⟨hk, hk.2⟩ : _ ∧ k_ ≠ gb241))) (fun _ hk => hk.2) (.int .i64 ((rd_T65 t236 t239).f0))) (fun _ hk => hk.2) (.int .i64 ((rd_T65 t236 t239).f1))) (fun _ hk => hk.2) (.slice A240_2 ((rd_T65 t236 t239).f2).length c240_2)) (fun _ hk => by first | exact ⟨hk.1.1.1.1, ⟨hk.1.1.2, ⟨hk.1.1.1.2, hk.1.2⟩⟩⟩ | simp only [ne_eq, hk, not_false_eq_true, and_self])))⟩; have n5_ : Aside0 (w45.heap[gb235]? = some (.cells #[.int .i64 ((rd_T65 x4_2 t233).f0), .int .i64 ((rd_T65 x4_2 t233).f1), .slice A234_2 ((rd_T65 x4_2 t233).f2).length c234_2] 65 (0, 0))) := ⟨(by rw [hw]; exact (by (with_reducible repeat (first | refine blk_drewN ?_ _ | refine blk_drew ?_ | refine blk_alloc ?_ _)); refine blk_far ?_ NB235_241.out _; (with_reducible repeat (first | refine blk_drewN ?_ _ | refine blk_drew ?_ | refine blk_alloc ?_ _)); refine blk_far ?_ NB235_241.out _; (with_reducible repeat (first | refine blk_drewN ?_ _ | refine blk_drew ?_ | refine blk_alloc ?_ _)); refine blk_far ?_ NB235_241.out _; (with_reducible repeat (first | refine blk_drewN ?_ _ | refine blk_drew ?_ | refine blk_alloc ?_ _)); exact BK235.out))⟩; have n6_ : Aside0 (w45.heap[gb241]? = some (.cells #[.int .i64 ((rd_T65 t236 t239).f0), .int .i64 ((rd_T65 t236 t239).f1), .slice A240_2 ((rd_T65 t236 t239).f2).length c240_2] 65 (0, 0))) := ⟨(by rw [hw]; exact (by (with_reducible repeat (first | refine blk_drewN ?_ _ | refine blk_drew ?_ | refine blk_alloc ?_ _)); refine blk_put (cs := #[.int .i64 ((rd_T65 t236 t239).f0), .int .i64 ((rd_T65 t236 t239).f1), .slice none 0 0]) ?_ 2 _ rfl; (with_reducible repeat (first | refine blk_drewN ?_ _ | refine blk_drew ?_ | refine blk_alloc ?_ _)); refine blk_put (cs := #[.int .i64 ((rd_T65 t236 t239).f0), .int .i64 0, .slice none 0 0]) ?_ 1 _ rfl; (with_reducible repeat (first | refine blk_drewN ?_ _ | refine blk_drew ?_ | refine blk_alloc ?_ _)); refine blk_put (cs := #[.int .i64 0, .int .i64 0, .slice none 0 0]) ?_ 0 _ rfl; (with_reducible repeat (first | refine blk_drewN ?_ _ | refine blk_drew ?_ | refine blk_alloc ?_ _)); exact BK241.out))⟩; have n7_ : Aside0 (Below w.heap.size w w45) := ⟨(by rw [hw]; exact (by repeat (first | (with_reducible first | exact HB.out | apply below_alloc | apply pw_below_drewN | apply below_drew1 | refine below_set ?_ GE235.out | refine below_set ?_ GE241.out) | exact HB.out)))⟩; clear hw; clear HO_4; clear HO_5; clear HL234_2; clear HO238; clear HL240_2; clear BK235; clear BK241; clear HB; have HO_4 := n0_; have HO_5 := n1_; have HL234_2 := n2_; have HO238 := n3_; have HL240_2 := n4_; have BK235 := n5_; have BK241 := n6_; have HB := n7_; clear n0_ n1_ n2_ n3_ n4_ n5_ n6_ n7_) | ((with_reducible refine gate_callee (f := 28) rfl ?_); refine goesL_ (some 70) rfl rfl Try.func28 (by kernel_rfl) rfl #[.slice (some ad240) t236.length co41, .int .i64 t239] rfl (by (try simp only [List.map_toArray, List.map_cons, List.map_nil]); first | done | rfl | (simp only [List.length_drop, List.length_take]; rfl)) ?_; (with_reducible refine (haystackref11_without.calls (fun k_ => (some k_ ≠ (v221 : Value).ownBlock ∧ (k_ ≠ gb235 ∧ k_ ≠ gb241))) _ _ t236 t239 t242 _ ?side1 A33.out).mono ?_); (case side1 => exact Kd.N_V (HO238.out)); rintro e w46 ⟨v243, rfl, ho0, hb⟩; refine ⟨_, rfl, ?_⟩; have n0_ := Aside0.mk (Kd.N_elder' (by (with_reducible repeat (first | apply Kd.N_alloc | apply Kd.N_drewN | apply Kd.N_drew)); exact HO_4.out) (Kd.N_base ho0) hb); have n1_ := Aside0.mk (Kd.R_below (by (with_reducible repeat (first | apply Kd.R_alloc | apply Kd.R_drewN | apply Kd.R_drew)); exact HO_5.out) hb); have n2_ := Aside0.mk (Kd.V_elder' (by (with_reducible repeat (first | apply Kd.V_alloc | apply Kd.V_drewN | apply Kd.V_drew)); exact HL234_2.out) (Kd.N_base ho0) hb); have n3_ := Aside0.mk (Kd.N_elder' (by (with_reducible repeat (first | apply Kd.N_alloc | apply Kd.N_drewN | apply Kd.N_drew)); exact HO238.out) (Kd.N_base ho0) hb); have n4_ := Aside0.mk (Kd.V_elder' (by (with_reducible repeat (first | apply Kd.V_alloc | apply Kd.V_drewN | apply Kd.V_drew)); exact HL240_2.out) (Kd.N_base ho0) hb); have n5_ := Aside0.mk (Kd.N_lower (Kd.N_mono (ok' := fun k_ => some k_ ≠ (v221 : Value).ownBlock ∧ k_ ≠ gb235 ∧ k_ ≠ gb241) ho0 (fun k_ hk_ => ⟨Or.elim hk_ (fun hs_ => hs_.1) (fun hn_ => (Kd.fresh' (Kd.R_lt (by (with_reducible repeat (first | apply Kd.R_alloc | apply Kd.R_drewN | apply Kd.R_drew)); exact HO_5.out)) k_ hn_)), Or.elim hk_ (fun hs_ => hs_.2.1) (fun hn_ => (Kd.freshB (g := gb235) (o := .cells #[.int .i64 ((rd_T65 x4_2 t233).f0), .int .i64 ((rd_T65 x4_2 t233).f1), .slice A234_2 ((rd_T65 x4_2 t233).f2).length c234_2] 65 (0, 0)) (by (with_reducible repeat (first | refine blk_drewN ?_ _ | refine blk_drew ?_ | refine blk_alloc ?_ _)); exact BK235.out) k_ hn_)), Or.elim hk_ (fun hs_ => hs_.2.2) (fun hn_ => (Kd.freshB (g := gb241) (o := .cells #[.int .i64 ((rd_T65 t236 t239).f0), .int .i64 ((rd_T65 t236 t239).f1), .slice A240_2 ((rd_T65 t236 t239).f2).length c240_2] 65 (0, 0)) (by (with_reducible repeat (first | refine blk_drewN ?_ _ | refine blk_drew ?_ | refine blk_alloc ?_ _)); exact BK241.out) k_ hn_))⟩)) (below_size (by repeat (first | (with_reducible first | exact HB.out | apply below_alloc | apply pw_below_drewN | apply below_drew1 | refine below_set ?_ GE235.out | refine below_set ?_ GE241.out) | exact HB.out)))); (first | have n6_ := Aside0.mk (Kd.C_below (by repeat (first | (with_reducible exact HR234_2.out) | (with_reducible refine Kd.C_alloc ?_ _) | (with_reducible refine Kd.C_drewN ?_ _) | (with_reducible refine Kd.C_drew ?_) | exact HR234_2.out)) hb) | have n6_ := Aside0.mk (Kd.V_reads' n2_.out).2.2); have n7_ := Aside0.mk (blk_below (g := gb235) (o := .cells #[.int .i64 ((rd_T65 x4_2 t233).f0), .int .i64 ((rd_T65 x4_2 t233).f1), .slice A234_2 ((rd_T65 x4_2 t233).f2).length c234_2] 65 (0, 0)) (by (with_reducible repeat (first | refine blk_drewN ?_ _ | refine blk_drew ?_ | refine blk_alloc ?_ _)); exact BK235.out) hb); (first | have n8_ := Aside0.mk (Kd.C_below (by repeat (first | (with_reducible exact HR240_2.out) | (with_reducible refine Kd.C_alloc ?_ _) | (with_reducible refine Kd.C_drewN ?_ _) | (with_reducible refine Kd.C_drew ?_) | exact HR240_2.out)) hb) | have n8_ := Aside0.mk (Kd.V_reads' n4_.out).2.2); have n9_ := Aside0.mk (blk_below (g := gb241) (o := .cells #[.int .i64 ((rd_T65 t236 t239).f0), .int .i64 ((rd_T65 t236 t239).f1), .slice A240_2 ((rd_T65 t236 t239).f2).length c240_2] 65 (0, 0)) (by (with_reducible repeat (first | refine blk_drewN ?_ _ | refine blk_drew ?_ | refine blk_alloc ?_ _)); exact BK241.out) hb); have n10_ := Aside0.mk (below_step (by repeat (first | (with_reducible first | exact HB.out | apply below_alloc | apply pw_below_drewN | apply below_drew1 | refine below_set ?_ GE235.out | refine below_set ?_ GE241.out) | exact HB.out)) hb); clear HO_4; clear HO_5; clear HL234_2; clear HO238; clear HL240_2; clear HR234_2; clear BK235; clear HR240_2; clear BK241; clear HB; have HO_4 := n0_; have HO_5 := n1_; have HL234_2 := n2_; have HO238 := n3_; have HL240_2 := n4_; have HO244 := n5_; have HR234_2 := n6_; have BK235 := n7_; have HR240_2 := n8_; have BK241 := n9_; have HB := n10_; clear n0_ n1_ n2_ n3_ n4_ n5_ n6_ n7_ n8_ n9_ n10_; (try clear hb); (try clear hb2); (try clear hk); (try clear hi); (try clear ho0)))
                have n0_ := Aside0.mk (Kd.N_drew HO_4.out)
                have n1_ := Aside0.mk (Kd.R_drew HO_5.out)
                have n2_ := Aside0.mk (Kd.V_drew HL234_2.out)
                have n3_ := Aside0.mk (Kd.N_drew HO238.out)
                have n4_ := Aside0.mk (Kd.V_drew HL240_2.out)
                have n5_ := Aside0.mk (Kd.N_drew HO244.out)
                have n6_ := Aside0.mk (blk_drew BK235.out)
                have n7_ := Aside0.mk (blk_drew BK241.out)
                have n8_ := Aside0.mk (Kd.C_drew HR234_2.out)
                have n9_ := Aside0.mk (Kd.C_drew HR240_2.out)
                have n10_ := Aside0.mk (below_drew1 HB.out)
                clear HO_4
                clear HO_5
                clear HL234_2
                clear HO238
                clear HL240_2
                clear HO244
                clear BK235
                clear BK241
                clear HR234_2
                clear HR240_2
                clear HB
                have HO_4 := n0_
                have HO_5 := n1_
                have HL234_2 := n2_
                have HO238 := n3_
                have HL240_2 := n4_
                have HO244 := n5_
                have BK235 := n6_
                have BK241 := n7_
                have HR234_2 := n8_
                have HR240_2 := n9_
                have HB := n10_
                clear n0_ n1_ n2_ n3_ n4_ n5_ n6_ n7_ n8_ n9_ n10_
                refine start_ (n := 8) (S := fun w' => w'.cell? ⟨gb235, 0, none⟩ = some (.int .i64 ((rd_T65 x4_2 t233).f0)) ∧ w'.cell? ⟨gb235, 1, none⟩ = some (.int .i64 ((rd_T65 x4_2 t233).f1)) ∧ w'.cell? ⟨gb235, 2, none⟩ = some (.slice A234_2 ((rd_T65 x4_2 t233).f2).length c234_2) ∧ w'.cell? ⟨gb241, 0, none⟩ = some (.int .i64 ((rd_T65 t236 t239).f0)) ∧ w'.cell? ⟨gb241, 1, none⟩ = some (.int .i64 ((rd_T65 t236 t239).f1)) ∧ w'.cell? ⟨gb241, 2, none⟩ = some (.slice A240_2 ((rd_T65 t236 t239).f2).length c240_2)) (ds := []) #[false, false, false, false, false, false, false, false] (by kernel_rfl) rfl rfl ⟨(blk_cell BK235.out 0).trans rfl, (blk_cell BK235.out 1).trans rfl, (blk_cell BK235.out 2).trans rfl, (blk_cell BK241.out 0).trans rfl, (blk_cell BK241.out 1).trans rfl, (blk_cell BK241.out 2).trans rfl⟩ (fun hHeld => ?_); refine with_tabW haystackref11_Lengths.tab22 haystackref11_Lengths.bits22 (fun HT_ HW_ => ?_)
                generalize w46.drew = w47 at HO_4 HO_5 HL234_2 HO238 HL240_2 HO244 BK235 BK241 HR234_2 HR240_2 HB hHeld ⊢
                refine pure_ (i := 1) (N := some 72) (v := ?_) (a' := ?_) #[false, true, false, false, false, false, false, false] rfl rfl (any_of HT_.out (by kernel_rfl)) (fun _ _ _ h => h) (Or.inl ⟨by rfl, ?_⟩) ?_ ?_
                rotate_left
                ·intro w'
                 go_simp
                 with_reducible rfl
                rotate_left
                ·simp only [Act.put, List.setIfInBounds_toArray, List.set_cons_zero, List.set_cons_succ, i64_w, i32_w]
                 rfl
                refine pure_ (i := 4) (N := some 75) (v := ?_) (a' := ?_) #[false, true, false, false, true, false, false, false] rfl rfl (any_of HT_.out (by kernel_rfl)) (fun _ _ _ h => h) (Or.inl ⟨by rfl, ?_⟩) ?_ ?_
                rotate_left
                ·intro w'
                 go_simp
                 with_reducible rfl
                rotate_left
                ·simp only [Act.put, List.setIfInBounds_toArray, List.set_cons_zero, List.set_cons_succ, i64_w, i32_w]
                 rfl
                refine take_ (i := 2) (N := some 73) (v := ?_) (a' := ?_) #[false, true, true, false, true, false, false, false] rfl rfl (take_ofW HT_.out HW_.out (by kernel_rfl)) (fun _ _ _ h => h) (Or.inl ⟨by rfl, ?_⟩) hHeld ?_ ?_
                rotate_left
                ·rintro w' ⟨s0, s1, s2, s3, s4, s5⟩
                 go_simp
                 with_reducible rfl
                rotate_left
                ·simp only [Act.put, List.setIfInBounds_toArray, List.set_cons_zero, List.set_cons_succ, i64_w, i32_w]
                 rfl
                refine take_ (i := 5) (N := some 76) (v := ?_) (a' := ?_) #[false, true, true, false, true, true, false, false] rfl rfl (take_ofW HT_.out HW_.out (by kernel_rfl)) (fun _ _ _ h => h) (Or.inl ⟨by rfl, ?_⟩) hHeld ?_ ?_
                rotate_left
                ·rintro w' ⟨s0, s1, s2, s3, s4, s5⟩
                 go_simp
                 with_reducible rfl
                rotate_left
                ·simp only [Act.put, List.setIfInBounds_toArray, List.set_cons_zero, List.set_cons_succ, i64_w, i32_w]
                 rfl
                refine one_ (i := 0) (N := some 71) #[true, true, true, false, true, true, false, false] rfl rfl (one_of HT_.out (by kernel_rfl)) (by decide) (fun K hK => ?_)
                refine Kd.R_lit_step (Kd.int .i64) _ 3 ?hg (N := 71) ?hd (xs := ([] : List Int)) (inner := []) (ok := fun _ => True) (okp := fun _ => True) ?hr ?hp (fun _ hk => hk) trivial (Below.refl _ _) (Nat.le_refl _) (by simp) ?_; (case hd => rfl); (case hg => rfl); (case hr => first | (go_simp; done) | (go_simp; rfl)); (case hp => exact (Reps.none _ _))
                intro v246 w48 ho49 hb hg_ hnew_
                clear hg_ hnew_
                (first | rw [← Ny245.out] at ho49 | (simp only [Int.reduceToNat] at ho49; rw [← Ny245.out] at ho49))
                have n0_ := Aside0.mk (Kd.N_elder' (by (with_reducible repeat (first | apply Kd.N_alloc | apply Kd.N_drewN | apply Kd.N_drew)); exact HO_4.out) (Kd.R_base ho49) hb)
                have n1_ := Aside0.mk (Kd.R_elder' (by (with_reducible repeat (first | apply Kd.R_alloc | apply Kd.R_drewN | apply Kd.R_drew)); exact HO_5.out) (Kd.R_base ho49) hb)
                have n2_ := Aside0.mk (Kd.V_elder' (by (with_reducible repeat (first | apply Kd.V_alloc | apply Kd.V_drewN | apply Kd.V_drew)); exact HL234_2.out) (Kd.R_base ho49) hb)
                have n3_ := Aside0.mk (Kd.N_elder' (by (with_reducible repeat (first | apply Kd.N_alloc | apply Kd.N_drewN | apply Kd.N_drew)); exact HO238.out) (Kd.R_base ho49) hb)
                have n4_ := Aside0.mk (Kd.V_elder' (by (with_reducible repeat (first | apply Kd.V_alloc | apply Kd.V_drewN | apply Kd.V_drew)); exact HL240_2.out) (Kd.R_base ho49) hb)
                have n5_ := Aside0.mk (Kd.N_elder' (by (with_reducible repeat (first | apply Kd.N_alloc | apply Kd.N_drewN | apply Kd.N_drew)); exact HO244.out) (Kd.R_base ho49) hb)
                have n6_ := Aside0.mk (Kd.R_lower (Kd.R_new' ho49 (Kd.R_lt (by (with_reducible repeat (first | apply Kd.R_alloc | apply Kd.R_drewN | apply Kd.R_drew)); exact HO_5.out))) (below_size (by repeat (first | (with_reducible first | exact HB.out | apply below_alloc | apply pw_below_drewN | apply below_drew1 | refine below_set ?_ GE235.out | refine below_set ?_ GE241.out) | exact HB.out))))
                (first | have n7_ := Aside0.mk (Kd.C_below (by repeat (first | (with_reducible exact HR234_2.out) | (with_reducible refine Kd.C_alloc ?_ _) | (with_reducible refine Kd.C_drewN ?_ _) | (with_reducible refine Kd.C_drew ?_) | exact HR234_2.out)) hb) | have n7_ := Aside0.mk (Kd.V_reads' n2_.out).2.2)
                have n8_ := Aside0.mk (blk_below (g := gb235) (o := .cells #[.int .i64 ((rd_T65 x4_2 t233).f0), .int .i64 ((rd_T65 x4_2 t233).f1), .slice A234_2 ((rd_T65 x4_2 t233).f2).length c234_2] 65 (0, 0)) (by (with_reducible repeat (first | refine blk_drewN ?_ _ | refine blk_drew ?_ | refine blk_alloc ?_ _)); exact BK235.out) hb)
                (first | have n9_ := Aside0.mk (Kd.C_below (by repeat (first | (with_reducible exact HR240_2.out) | (with_reducible refine Kd.C_alloc ?_ _) | (with_reducible refine Kd.C_drewN ?_ _) | (with_reducible refine Kd.C_drew ?_) | exact HR240_2.out)) hb) | have n9_ := Aside0.mk (Kd.V_reads' n4_.out).2.2)
                have n10_ := Aside0.mk (blk_below (g := gb241) (o := .cells #[.int .i64 ((rd_T65 t236 t239).f0), .int .i64 ((rd_T65 t236 t239).f1), .slice A240_2 ((rd_T65 t236 t239).f2).length c240_2] 65 (0, 0)) (by (with_reducible repeat (first | refine blk_drewN ?_ _ | refine blk_drew ?_ | refine blk_alloc ?_ _)); exact BK241.out) hb)
                have n11_ := Aside0.mk (below_step (by repeat (first | (with_reducible first | exact HB.out | apply below_alloc | apply pw_below_drewN | apply below_drew1 | refine below_set ?_ GE235.out | refine below_set ?_ GE241.out) | exact HB.out)) hb)
                clear HO_4
                clear HO_5
                clear HL234_2
                clear HO238
                clear HL240_2
                clear HO244
                clear HR234_2
                clear BK235
                clear HR240_2
                clear BK241
                clear HB
                have HO_4 := n0_
                have HO_5 := n1_
                have HL234_2 := n2_
                have HO238 := n3_
                have HL240_2 := n4_
                have HO244 := n5_
                have HO247 := n6_
                have HR234_2 := n7_
                have BK235 := n8_
                have HR240_2 := n9_
                have BK241 := n10_
                have HB := n11_
                clear n0_ n1_ n2_ n3_ n4_ n5_ n6_ n7_ n8_ n9_ n10_ n11_
                clear hb ho49
                refine hK.out _ _ ⟨(blk_cell BK235.out 0).trans rfl, (blk_cell BK235.out 1).trans rfl, (blk_cell BK235.out 2).trans rfl, (blk_cell BK241.out 0).trans rfl, (blk_cell BK241.out 1).trans rfl, (blk_cell BK241.out 2).trans rfl⟩ (fun hHeld => ?_)
                clear hK K
                refine norm_ (a' := ?_) ?_ ?_
                rotate_left
                ·show Act.put _ (some 71) _ = _
                 simp only [Act.put, List.setIfInBounds_toArray, List.set_cons_zero, List.set_cons_succ, i64_w, i32_w]
                 rfl
                refine one_ (i := 3) (N := some 74) #[true, true, true, true, true, true, false, false] rfl rfl (one_of HT_.out (by kernel_rfl)) (by decide) (fun K hK => ?_)
                refine Kd.R_append_rows_step (Kd.int .i64) (w0 := w) w.heap.size (by rfl) (.tmp 71) (.tmp 73) 22 3 (.int .i64 0) 8 rfl Try.underlying22 info3 rfl (by decide) (by omega) v246 y245 ((rd_T65 x4_2 t233).f2) _ _ _ (fun k_ => some k_ ≠ (v221 : Value).ownBlock) (fun _ => False) rfl rfl ?aO ?aR (fun _ _ h => h) (fun _ h => h.elim) ?aF ?aB ?aS ?aL ?_
                (case aR => repeat (first | exact (by repeat (first | (with_reducible exact HR234_2.out) | (with_reducible refine Kd.C_alloc ?_ _) | (with_reducible refine Kd.C_drewN ?_ _) | (with_reducible refine Kd.C_drew ?_) | exact HR234_2.out)) | (with_reducible refine Kd.C_alloc ?_ _) | (with_reducible refine Kd.C_drewN ?_ _) | (with_reducible refine Kd.C_drew ?_)))
                (case aB => exact (by repeat (first | (with_reducible first | exact HB.out | apply below_alloc | apply pw_below_drewN | apply below_drew1 | refine below_set ?_ GE235.out | refine below_set ?_ GE241.out) | exact HB.out)))
                (case aF => exact (fun k_ hk => Kd.fresh' (Kd.R_lt (by (with_reducible repeat (first | apply Kd.R_alloc | apply Kd.R_drewN | apply Kd.R_drew)); exact HO_5.out)) k_ hk))
                (case aO => exact (by (with_reducible repeat (first | apply Kd.R_alloc | apply Kd.R_drewN | apply Kd.R_drew)); exact Kd.R_mono HO247.out (fun _ hk => hk.2)))
                (case aS => exact (below_size (by repeat (first | (with_reducible first | exact HB.out | apply below_alloc | apply pw_below_drewN | apply below_drew1 | refine below_set ?_ GE235.out | refine below_set ?_ GE241.out) | exact HB.out))))
                (case aL => have := LMc34.out; omega)
                intro v249 w50 ho hb hg hat
                rw [← Ny248.out] at ho
                have n0_ := Aside0.mk (Kd.N_afterv (ok := (fun k_ => some k_ ≠ (v221 : Value).ownBlock ∧ some k_ ≠ (.slice (some ad240) t236.length co41 : Value).ownBlock ∧ some k_ ≠ (v243 : Value).ownBlock ∧ k_ ≠ gb235 ∧ k_ ≠ gb241)) (by (with_reducible repeat (first | apply Kd.N_alloc | apply Kd.N_drewN | apply Kd.N_drew)); exact Kd.N_mono HO_4.out (fun _ hk => by first | exact ⟨⟨hk.1.1.1, ⟨hk.1.1.2.1, ⟨hk.1.2, ⟨hk.1.1.2.2.1, hk.1.1.2.2.2⟩⟩⟩⟩, hk.2⟩ | simp only [ne_eq, hk, not_false_eq_true, and_self])) hg hat)
                have n1_ := Aside0.mk (Kd.R_after (ok := (fun _ => True)) (by (with_reducible repeat (first | apply Kd.R_alloc | apply Kd.R_drewN | apply Kd.R_drew)); exact HO_5.out) hg hat)
                have n2_ := Aside0.mk (Kd.V_afterv (ok := (fun k_ => some k_ ≠ (.slice (some ad234) x4_2.length co36 : Value).ownBlock ∧ some k_ ≠ (v221 : Value).ownBlock ∧ some k_ ≠ (.slice (some ad240) t236.length co41 : Value).ownBlock ∧ some k_ ≠ (v243 : Value).ownBlock ∧ k_ ≠ gb235 ∧ k_ ≠ gb241)) (by (with_reducible repeat (first | apply Kd.V_alloc | apply Kd.V_drewN | apply Kd.V_drew)); exact Kd.V_mono HL234_2.out (fun _ hk => by first | exact ⟨⟨hk.1.1.1, ⟨hk.1.1.2.1, ⟨hk.1.1.2.2.1, ⟨hk.1.2, ⟨hk.1.1.2.2.2.1, hk.1.1.2.2.2.2⟩⟩⟩⟩⟩, hk.2⟩ | simp only [ne_eq, hk, not_false_eq_true, and_self])) hg hat)
                have n3_ := Aside0.mk (blk_grown (g := gb235) (o := .cells #[.int .i64 ((rd_T65 x4_2 t233).f0), .int .i64 ((rd_T65 x4_2 t233).f1), .slice A234_2 ((rd_T65 x4_2 t233).f2).length c234_2] 65 (0, 0)) (by (with_reducible repeat (first | refine blk_drewN ?_ _ | refine blk_drew ?_ | refine blk_alloc ?_ _)); exact BK235.out) hg (Kd.R_ne HO247.out BK235.out (by decide)))
                have n4_ := Aside0.mk (Kd.N_afterv (ok := (fun k_ => some k_ ≠ (v221 : Value).ownBlock ∧ some k_ ≠ (v243 : Value).ownBlock ∧ k_ ≠ gb235 ∧ k_ ≠ gb241)) (by (with_reducible repeat (first | apply Kd.N_alloc | apply Kd.N_drewN | apply Kd.N_drew)); exact Kd.N_mono HO238.out (fun _ hk => by first | exact ⟨⟨hk.1.1.1, ⟨hk.1.2, ⟨hk.1.1.2.1, hk.1.1.2.2⟩⟩⟩, hk.2⟩ | simp only [ne_eq, hk, not_false_eq_true, and_self])) hg hat)
                have n5_ := Aside0.mk (Kd.V_afterv (ok := (fun k_ => some k_ ≠ (v221 : Value).ownBlock ∧ some k_ ≠ (.slice (some ad240) t236.length co41 : Value).ownBlock ∧ some k_ ≠ (v243 : Value).ownBlock ∧ k_ ≠ gb235 ∧ k_ ≠ gb241)) (by (with_reducible repeat (first | apply Kd.V_alloc | apply Kd.V_drewN | apply Kd.V_drew)); exact Kd.V_mono HL240_2.out (fun _ hk => by first | exact ⟨⟨hk.1.1.1, ⟨hk.1.1.2.1, ⟨hk.1.2, ⟨hk.1.1.2.2.1, hk.1.1.2.2.2⟩⟩⟩⟩, hk.2⟩ | simp only [ne_eq, hk, not_false_eq_true, and_self])) hg hat)
                have n6_ := Aside0.mk (blk_grown (g := gb241) (o := .cells #[.int .i64 ((rd_T65 t236 t239).f0), .int .i64 ((rd_T65 t236 t239).f1), .slice A240_2 ((rd_T65 t236 t239).f2).length c240_2] 65 (0, 0)) (by (with_reducible repeat (first | refine blk_drewN ?_ _ | refine blk_drew ?_ | refine blk_alloc ?_ _)); exact BK241.out) hg (Kd.R_ne HO247.out BK241.out (by decide)))
                have n7_ := Aside0.mk (Kd.N_afterv (ok := (fun k_ => some k_ ≠ (v221 : Value).ownBlock ∧ k_ ≠ gb235 ∧ k_ ≠ gb241)) (by (with_reducible repeat (first | apply Kd.N_alloc | apply Kd.N_drewN | apply Kd.N_drew)); exact HO244.out) hg hat)
                have n8_ := Aside0.mk (hb)
                have n9_ := Aside0.mk (ho)
                clear HO_4
                clear HO_5
                clear HL234_2
                clear BK235
                clear HO238
                clear HL240_2
                clear BK241
                clear HO244
                clear HB
                clear HO247
                have HO_4 := n0_
                have HO_5 := n1_
                have HL234_2 := n2_
                have BK235 := n3_
                have HO238 := n4_
                have HL240_2 := n5_
                have BK241 := n6_
                have HO244 := n7_
                have HB := n8_
                have HO250 := n9_
                clear n0_ n1_ n2_ n3_ n4_ n5_ n6_ n7_ n8_ n9_
                clear ho hb hg hat
                refine hK.out _ _ ⟨(blk_cell BK235.out 0).trans rfl, (blk_cell BK235.out 1).trans rfl, (blk_cell BK235.out 2).trans rfl, (blk_cell BK241.out 0).trans rfl, (blk_cell BK241.out 1).trans rfl, (blk_cell BK241.out 2).trans rfl⟩ (fun hHeld => ?_)
                clear hK K
                refine norm_ (a' := ?_) ?_ ?_
                rotate_left
                ·show Act.put _ (some 74) _ = _
                 simp only [Act.put, List.setIfInBounds_toArray, List.set_cons_zero, List.set_cons_succ, i64_w, i32_w]
                 rfl
                refine one_ (i := 6) (N := some 77) #[true, true, true, true, true, true, true, false] rfl rfl (one_of HT_.out (by kernel_rfl)) (by decide) (fun K hK => ?_)
                refine Kd.R_append_rows_step (Kd.int .i64) (w0 := w) w.heap.size (by rfl) (.tmp 74) (.tmp 76) 22 3 (.int .i64 0) 8 rfl Try.underlying22 info3 rfl (by decide) (by omega) v249 y248 ((rd_T65 t236 t239).f2) _ _ _ (fun k_ => some k_ ≠ (v221 : Value).ownBlock) (fun _ => False) rfl rfl ?aO ?aR (fun _ _ h => h) (fun _ h => h.elim) ?aF ?aB ?aS ?aL ?_
                (case aR => repeat (first | exact ((Kd.V_reads' (by (with_reducible repeat (first | apply Kd.V_alloc | apply Kd.V_drewN | apply Kd.V_drew)); exact HL240_2.out)).2.2) | (with_reducible refine Kd.C_alloc ?_ _) | (with_reducible refine Kd.C_drewN ?_ _) | (with_reducible refine Kd.C_drew ?_)))
                (case aB => exact (by repeat (first | (with_reducible first | exact HB.out | apply below_alloc | apply pw_below_drewN | apply below_drew1 | refine below_set ?_ GE235.out | refine below_set ?_ GE241.out) | exact HB.out)))
                (case aF => exact (fun k_ hk => Kd.fresh' (Kd.R_lt (by (with_reducible repeat (first | apply Kd.R_alloc | apply Kd.R_drewN | apply Kd.R_drew)); exact HO_5.out)) k_ hk))
                (case aO => exact (by (with_reducible repeat (first | apply Kd.R_alloc | apply Kd.R_drewN | apply Kd.R_drew)); exact HO250.out))
                (case aS => exact (below_size (by repeat (first | (with_reducible first | exact HB.out | apply below_alloc | apply pw_below_drewN | apply below_drew1 | refine below_set ?_ GE235.out | refine below_set ?_ GE241.out) | exact HB.out))))
                (case aL => have := LMc35.out; omega)
                intro v252 w51 ho hb hg hat
                rw [← Ny251.out] at ho
                have n0_ := Aside0.mk (Kd.N_afterv (ok := (fun k_ => some k_ ≠ (v221 : Value).ownBlock ∧ some k_ ≠ (.slice (some ad240) t236.length co41 : Value).ownBlock ∧ some k_ ≠ (v243 : Value).ownBlock ∧ k_ ≠ gb235 ∧ k_ ≠ gb241)) (by (with_reducible repeat (first | apply Kd.N_alloc | apply Kd.N_drewN | apply Kd.N_drew)); exact HO_4.out) hg hat)
                have n1_ := Aside0.mk (Kd.R_after (ok := (fun _ => True)) (by (with_reducible repeat (first | apply Kd.R_alloc | apply Kd.R_drewN | apply Kd.R_drew)); exact HO_5.out) hg hat)
                have n2_ := Aside0.mk (Kd.V_afterv (ok := (fun k_ => some k_ ≠ (.slice (some ad234) x4_2.length co36 : Value).ownBlock ∧ some k_ ≠ (v221 : Value).ownBlock ∧ some k_ ≠ (.slice (some ad240) t236.length co41 : Value).ownBlock ∧ some k_ ≠ (v243 : Value).ownBlock ∧ k_ ≠ gb235 ∧ k_ ≠ gb241)) (by (with_reducible repeat (first | apply Kd.V_alloc | apply Kd.V_drewN | apply Kd.V_drew)); exact HL234_2.out) hg hat)
                have n3_ := Aside0.mk (blk_grown (g := gb235) (o := .cells #[.int .i64 ((rd_T65 x4_2 t233).f0), .int .i64 ((rd_T65 x4_2 t233).f1), .slice A234_2 ((rd_T65 x4_2 t233).f2).length c234_2] 65 (0, 0)) (by (with_reducible repeat (first | refine blk_drewN ?_ _ | refine blk_drew ?_ | refine blk_alloc ?_ _)); exact BK235.out) hg (Kd.R_ne HO250.out BK235.out (by decide)))
                have n4_ := Aside0.mk (Kd.N_afterv (ok := (fun k_ => some k_ ≠ (v221 : Value).ownBlock ∧ some k_ ≠ (v243 : Value).ownBlock ∧ k_ ≠ gb235 ∧ k_ ≠ gb241)) (by (with_reducible repeat (first | apply Kd.N_alloc | apply Kd.N_drewN | apply Kd.N_drew)); exact HO238.out) hg hat)
                have n5_ := Aside0.mk (Kd.V_afterv (ok := (fun k_ => some k_ ≠ (v221 : Value).ownBlock ∧ some k_ ≠ (.slice (some ad240) t236.length co41 : Value).ownBlock ∧ some k_ ≠ (v243 : Value).ownBlock ∧ k_ ≠ gb235 ∧ k_ ≠ gb241)) (by (with_reducible repeat (first | apply Kd.V_alloc | apply Kd.V_drewN | apply Kd.V_drew)); exact HL240_2.out) hg hat)
                have n6_ := Aside0.mk (blk_grown (g := gb241) (o := .cells #[.int .i64 ((rd_T65 t236 t239).f0), .int .i64 ((rd_T65 t236 t239).f1), .slice A240_2 ((rd_T65 t236 t239).f2).length c240_2] 65 (0, 0)) (by (with_reducible repeat (first | refine blk_drewN ?_ _ | refine blk_drew ?_ | refine blk_alloc ?_ _)); exact BK241.out) hg (Kd.R_ne HO250.out BK241.out (by decide)))
                have n7_ := Aside0.mk (Kd.N_afterv (ok := (fun k_ => some k_ ≠ (v221 : Value).ownBlock ∧ k_ ≠ gb235 ∧ k_ ≠ gb241)) (by (with_reducible repeat (first | apply Kd.N_alloc | apply Kd.N_drewN | apply Kd.N_drew)); exact HO244.out) hg hat)
                have n8_ := Aside0.mk (hb)
                have n9_ := Aside0.mk (ho)
                clear HO_4
                clear HO_5
                clear HL234_2
                clear BK235
                clear HO238
                clear HL240_2
                clear BK241
                clear HO244
                clear HB
                clear HO250
                have HO_4 := n0_
                have HO_5 := n1_
                have HL234_2 := n2_
                have BK235 := n3_
                have HO238 := n4_
                have HL240_2 := n5_
                have BK241 := n6_
                have HO244 := n7_
                have HB := n8_
                have HO253 := n9_
                clear n0_ n1_ n2_ n3_ n4_ n5_ n6_ n7_ n8_ n9_
                clear ho hb hg hat
                refine hK.out _ _ ⟨(blk_cell BK235.out 0).trans rfl, (blk_cell BK235.out 1).trans rfl, (blk_cell BK235.out 2).trans rfl, (blk_cell BK241.out 0).trans rfl, (blk_cell BK241.out 1).trans rfl, (blk_cell BK241.out 2).trans rfl⟩ (fun hHeld => ?_)
                clear hK K
                refine norm_ (a' := ?_) ?_ ?_
                rotate_left
                ·show Act.put _ (some 77) _ = _
                 simp only [Act.put, List.setIfInBounds_toArray, List.set_cons_zero, List.set_cons_succ, i64_w, i32_w]
                 rfl
                refine pure_ (i := 7) (N := some 12) (v := ?_) (a' := ?_) #[true, true, true, true, true, true, true, true] rfl rfl (any_of HT_.out (by kernel_rfl)) (fun _ _ _ h => h) (Or.inl ⟨by rfl, ?_⟩) ?_ ?_
                rotate_left
                ·intro w'
                 go_simp
                 with_reducible rfl
                rotate_left
                ·simp only [Act.put, List.setIfInBounds_toArray, List.set_cons_zero, List.set_cons_succ, i64_w, i32_w]
                 rfl
                refine done_ (done_of HT_.out (by kernel_rfl)) ?_
                try go_wp2
                go_loopg [13] k2 (fun kq v13 w' => ∃ (x5_3 : List Int) (x13_3 : Int), v13 = .int .i64 x13_3 ∧ Aside0 (haystackref11_Lengths.l2 kq t242 x5_3 x7_2 y251 x13_3 ((rd_T65 x4_2 t233).f0) ((rd_T65 x4_2 t233).f1) ((rd_T65 x4_2 t233).f2) ((rd_T65 t236 t239).f0) ((rd_T65 t236 t239).f1) ((rd_T65 t236 t239).f2) = some (r1, r2)) ∧ Aside0 (kq ≤ k2) ∧ Aside0 (Kd.N k65 65 w' w.heap.size (fun k_ => some k_ ≠ (v221 : Value).ownBlock ∧ some k_ ≠ (v252 : Value).ownBlock ∧ k_ ≠ gb235 ∧ k_ ≠ gb241) v243 t242) ∧ Aside0 (Kd.R (Kd.int .i64) 3 w' w.heap.size (fun k_ => some k_ ≠ (v252 : Value).ownBlock) v221 x5_3) ∧ Aside0 (Kd.R (Kd.int .i64) 3 w' w.heap.size (fun k_ => some k_ ≠ (v221 : Value).ownBlock) v252 y251) ∧ Aside0 (w'.heap[gb235]? = some (.cells #[.int .i64 ((rd_T65 x4_2 t233).f0), .int .i64 ((rd_T65 x4_2 t233).f1), (.slice A234_2 ((rd_T65 x4_2 t233).f2).length c234_2)] 65 (0, 0))) ∧ Aside0 (w'.heap[gb241]? = some (.cells #[.int .i64 ((rd_T65 t236 t239).f0), .int .i64 ((rd_T65 t236 t239).f1), (.slice A240_2 ((rd_T65 t236 t239).f2).length c240_2)] 65 (0, 0))) ∧ Aside0 (Below w.heap.size w w'))
                case atStart => exact ⟨(x5_2), (0), (by first | rfl | (simp; done) | (simp [*]; done)), H', ⟨Nat.le_refl _⟩, ⟨by (with_reducible repeat (first | apply Kd.N_alloc | apply Kd.N_drewN | apply Kd.N_drew)); exact Kd.N_mono HO244.out (fun _ hk => by first | exact ⟨hk.1.1, ⟨hk.2, ⟨hk.1.2.1, hk.1.2.2⟩⟩⟩ | simp only [ne_eq, hk, not_false_eq_true, and_self])⟩, ⟨by (with_reducible repeat (first | apply Kd.R_alloc | apply Kd.R_drewN | apply Kd.R_drew)); exact Kd.R_mono HO_5.out (fun _ hk => hk.2)⟩, ⟨by (with_reducible repeat (first | apply Kd.R_alloc | apply Kd.R_drewN | apply Kd.R_drew)); exact HO253.out⟩, ⟨by (with_reducible repeat (first | refine blk_drewN ?_ _ | refine blk_drew ?_ | refine blk_alloc ?_ _)); exact BK235.out⟩, ⟨by (with_reducible repeat (first | refine blk_drewN ?_ _ | refine blk_drew ?_ | refine blk_alloc ?_ _)); exact BK241.out⟩, ⟨by repeat (first | (with_reducible first | exact HB.out | apply below_alloc | apply pw_below_drewN | apply below_drew1 | refine below_set ?_ GE235.out | refine below_set ?_ GE241.out) | exact HB.out)⟩⟩
                case round =>
                 clear H'
                 try clear c1
                 try clear c2
                 try clear p2
                 try clear q2
                 try clear hx2
                 try clear qi2
                 try clear hf2
                 try clear c3
                 try clear c4
                 try clear c4b0
                 try clear c4b1
                 try clear p6
                 try clear c7
                 try clear c7b0
                 try clear c8
                 try clear c8b0
                 try clear c9
                 try clear c9b0
                 try clear c10
                 try clear c10b0
                 try clear c11
                 try clear c16
                 try clear c16b0
                 try clear c16b1
                 try clear c17
                 try clear c17b0
                 try clear c17b1
                 try clear c18
                 try clear c18b0
                 try clear c19
                 try clear c19b0
                 try clear p20
                 try clear q20
                 try clear hx20
                 try clear hf20
                 try clear p22
                 try clear q22
                 try clear hx22
                 try clear c23
                 try clear p23
                 try clear q23
                 try clear hx23
                 try clear qi23
                 try clear c24
                 try clear p24
                 try clear q24
                 try clear hx24
                 try clear c25
                 try clear c25b0
                 try clear c25b1
                 try clear c26
                 try clear c27
                 try clear c27b0
                 try clear c28
                 try clear c28b0
                 try clear c31
                 try clear c31b0
                 try clear c32
                 try clear c32b0
                 try clear c34
                 try clear c35
                 try clear c43
                 try clear hcz38_0
                 try clear hcz38_1
                 try clear hcz38_2
                 try clear hcz44_0
                 try clear hcz44_1
                 try clear hcz44_2
                 try clear hfz38_0
                 try clear hfz38_1
                 try clear hfz38_2
                 try clear hfz44_0
                 try clear hfz44_1
                 try clear hfz44_2
                 try clear hx20_0
                 try clear hx223_0
                 try clear hx224_0
                 try clear hx231_0
                 try clear hx231_1
                 try clear hx231_2
                 try clear hx234_0
                 try clear hx234_1
                 try clear hx234_2
                 try clear hx240_0
                 try clear hx240_1
                 try clear hx240_2
                 try clear p2
                 try clear p20
                 try clear p22
                 try clear p223
                 try clear p224
                 try clear p23
                 try clear p231
                 try clear p234
                 try clear p240
                 try clear p6
                 try clear q2
                 try clear q20
                 try clear q22
                 try clear q223
                 try clear q224
                 try clear q23
                 try clear q231
                 try clear q234
                 try clear q240
                 obtain ⟨x5_3, x13_3, rfl, HA, HK3, HO_4, HO_5, HO_12, BK235, BK241, HB⟩ := hrel
                 cases gk with
                 | zero => exact absurd HA.out (by simp [haystackref11_Lengths.l2])
                 | succ k3 =>
                  have H := HA.out
                  clear HA
                  simp only [haystackref11_Lengths.l2] at H
                  by_cases c52 : x13_3 < (y251.length : Int)
                  ·rw [if_pos c52] at H
                   have c52b0 : decide (x13_3 < (y251.length : Int)) = true := decide_eq_true c52
                   have c52b0L_ := c52b0
                   (try simp only [hl231_2] at c52b0L_); (try simp only [hl234_2] at c52b0L_); (try simp only [hl240_2] at c52b0L_)
                   clear c52
                   by_cases c53 : 0 ≤ x13_3
                   ·rw [if_pos c53] at H
                    have c53b0 : decide (0 ≤ x13_3) = true := decide_eq_true c53
                    clear c53
                    by_cases c54 : 0 ≤ (rd y251 x13_3)
                    ·rw [if_pos c54] at H
                     have c54b0 : decide (0 ≤ (rd y251 x13_3)) = true := decide_eq_true c54
                     clear c54
                     by_cases c55 : (rd y251 x13_3) < (x5_3.length : Int)
                     ·rw [if_pos c55] at H
                      have c55b0 : decide ((rd y251 x13_3) < (x5_3.length : Int)) = true := decide_eq_true c55
                      have c55b0L_ := c55b0
                      (try simp only [hl231_2] at c55b0L_); (try simp only [hl234_2] at c55b0L_); (try simp only [hl240_2] at c55b0L_)
                      clear c55
                      obtain ⟨y256, hy256⟩ : ∃ y_ : List Int, y_ = (x5_3.set ((rd y251 x13_3) : Int).toNat (wrap64 ((rd x5_3 (rd y251 x13_3)) + 1))) := ⟨_, rfl⟩
                      replace H : (haystackref11_Lengths.l2 k3 t242 y256 x7_2 y251 (wrap64 (x13_3 + 1)) ((rd_T65 x4_2 t233).f0) ((rd_T65 x4_2 t233).f1) ((rd_T65 x4_2 t233).f2) ((rd_T65 t236 t239).f0) ((rd_T65 t236 t239).f1) ((rd_T65 t236 t239).f2)) = some (r1, r2) := by first | (rw [hy256]; with_reducible exact H) | (have H2_ := (Option.bind_some _ _).symm.trans H; rw [hy256]; with_reducible exact H2_) | (have H2_ := (Option.bind_some _ _).symm.trans H; with_reducible exact H2_) | with_reducible exact H | (rw [hy256]; exact H) | exact H
                      have Ny256 := Aside0.mk hy256
                      clear hy256
                      have H' := Aside0.mk H
                      clear H
                      obtain ⟨Ao57, co57, eo57⟩ := Kd.R_slice HO_12.out
                      subst eo57
                      have p254 : 0 ≤ (x13_3 : Int) := of_decide_eq_true (by first | (with_reducible assumption) | assumption)
                      have q254 : x13_3 < (y251.length : Int) := of_decide_eq_true (by first | (with_reducible assumption) | assumption)
                      obtain ⟨ad254, e254, hx254_0⟩ := Kd.at_int (Kd.R_reads' HO_12.out).2.2 x13_3 p254 q254
                      cases e254
                      replace p254 := eq_true p254
                      replace q254 := eq_true q254
                      obtain ⟨Ao58, co58, eo58⟩ := Kd.R_slice HO_5.out
                      subst eo58
                      have p255 : 0 ≤ ((rd y251 x13_3) : Int) := of_decide_eq_true (by first | (with_reducible assumption) | assumption)
                      have q255 : (rd y251 x13_3) < (x5_3.length : Int) := of_decide_eq_true (by first | (with_reducible assumption) | assumption)
                      obtain ⟨ad255, e255, hx255_0⟩ := Kd.at_int (Kd.R_reads' HO_5.out).2.2 (rd y251 x13_3) p255 q255
                      cases e255
                      replace p255 := eq_true p255
                      replace q255 := eq_true q255
                      have p56 : 0 ≤ ((rd y251 x13_3) : Int) := of_decide_eq_true (by first | (with_reducible assumption) | assumption)
                      have q56 : ((rd y251 x13_3) : Int) < ((x5_3.length : Int) : Int) := of_decide_eq_true (by first | (with_reducible assumption) | assumption)
                      obtain ⟨go56, co56, eo56, gb56, gl56, cl56, HG56⟩ := Kd.R_form HO_5.out (by omega)
                      (first | cases eo56 | (injection eo56 with ea_ en_ ec_; (first | subst ea_ | (injection ea_ with ea_; subst ea_)); subst ec_; clear en_))
                      have GB56 := Aside0.mk gb56
                      have GG56 := Aside0.mk HG56
                      clear gb56 gl56 HG56
                      (first | simp only [add_plain] at hx255_0 | skip)
                      obtain ⟨hx56_0, hf56_0⟩ := Kd.R_celln 0 HO_5.out ((rd y251 x13_3) : Int) p56 q56
                      replace p56 := eq_true p56
                      replace q56 := eq_true q56
                      have HP59 := Kd.R_putg HO_5.out ((rd y251 x13_3) : Int) (wrap64 ((rd x5_3 (rd y251 x13_3)) + 1))
                      go_wp2_with (first | ((with_reducible refine gate_store (t := 3) (p := 92) rfl ?_); refine store_event (t := 3) (p := 92) (v := ?vo_w60) (w1 := (wr.setCell ⟨go56, ((rd y251 x13_3) : Int).toNat, none⟩ (.int .i64 (wrap64 ((rd x5_3 (rd y251 x13_3)) + 1))))) ?hg ?ho ?hn ?hr ?_; (case ho => rfl); (case hg => rfl); (case hn => rfl); (case hr => first | (go_simp; done) | (go_simp; rfl)); intro w60 hw; have hg : wr.grownBy w60 (some go56) := (by rw [hw]; exact HP59.2); have hp_ : Kd.R (Kd.int .i64) 3 w60 w.heap.size (fun k_ => some k_ ≠ (.slice (some ad254) y251.length co57 : Value).ownBlock) (.slice (some ⟨go56, 0, none⟩) x5_3.length co58) y256 := (by rw [hw, Ny256.out]; exact HP59.1); clear HP59; have n0_ := Aside0.mk (Kd.N_afterv (v := (.slice (some ⟨go56, 0, none⟩) x5_3.length co58)) (v1 := (.slice (some ⟨go56, 0, none⟩) x5_3.length co58)) (ok := (fun k_ => some k_ ≠ (.slice (some ad254) y251.length co57 : Value).ownBlock ∧ k_ ≠ gb235 ∧ k_ ≠ gb241)) (by (with_reducible repeat (first | apply Kd.N_alloc | apply Kd.N_drewN | apply Kd.N_drew)); exact Kd.N_mono HO_4.out (fun _ hk => by first | exact ⟨⟨hk.2.1, ⟨hk.2.2.1, hk.2.2.2⟩⟩, hk.1⟩ | simp only [ne_eq, hk, not_false_eq_true, and_self])) hg (.inl rfl)); have n1_ := Aside0.mk (hp_); have n2_ := Aside0.mk (Kd.R_after (v := (.slice (some ⟨go56, 0, none⟩) x5_3.length co58)) (v1 := (.slice (some ⟨go56, 0, none⟩) x5_3.length co58)) (ok := (fun _ => True)) (by (with_reducible repeat (first | apply Kd.R_alloc | apply Kd.R_drewN | apply Kd.R_drew)); exact Kd.R_mono HO_12.out (fun _ hk => ⟨trivial, hk⟩)) hg (.inl rfl)); have n3_ := Aside0.mk (blk_grown (g := gb235) (o := .cells #[.int .i64 ((rd_T65 x4_2 t233).f0), .int .i64 ((rd_T65 x4_2 t233).f1), .slice A234_2 ((rd_T65 x4_2 t233).f2).length c234_2] 65 (0, 0)) (by (with_reducible repeat (first | refine blk_drewN ?_ _ | refine blk_drew ?_ | refine blk_alloc ?_ _)); exact BK235.out) hg (Kd.R_ne HO_5.out BK235.out (by decide))); have n4_ := Aside0.mk (blk_grown (g := gb241) (o := .cells #[.int .i64 ((rd_T65 t236 t239).f0), .int .i64 ((rd_T65 t236 t239).f1), .slice A240_2 ((rd_T65 t236 t239).f2).length c240_2] 65 (0, 0)) (by (with_reducible repeat (first | refine blk_drewN ?_ _ | refine blk_drew ?_ | refine blk_alloc ?_ _)); exact BK241.out) hg (Kd.R_ne HO_5.out BK241.out (by decide))); have n5_ := Aside0.mk ((by rw [hw]; exact below_set (HB.out) GB56.out : Below w.heap.size w w60)); clear HO_4; clear HO_5; clear HO_12; clear BK235; clear BK241; clear HB; have HO_4 := n0_; have HO_5 := n1_; have HO_12 := n2_; have BK235 := n3_; have BK241 := n4_; have HB := n5_; clear n0_ n1_ n2_ n3_ n4_ n5_; clear hg hw hp_))
                      go_roundg k3
                      case measure => have := HK1.out; have := HK2.out; have := HK3.out; omega
                      case rel => exact ⟨(y256), (wrap64 (x13_3 + 1)), (by first | rfl | (simp; done) | (simp [*]; done)), H', ⟨by have := HK1.out; have := HK2.out; have := HK3.out; omega⟩, ⟨by (with_reducible repeat (first | apply Kd.N_alloc | apply Kd.N_drewN | apply Kd.N_drew)); exact Kd.N_mono HO_4.out (fun _ hk => by first | exact ⟨hk.2, ⟨hk.1.1, ⟨hk.1.2.1, hk.1.2.2⟩⟩⟩ | simp only [ne_eq, hk, not_false_eq_true, and_self])⟩, ⟨by (with_reducible repeat (first | apply Kd.R_alloc | apply Kd.R_drewN | apply Kd.R_drew)); exact HO_5.out⟩, ⟨by (with_reducible repeat (first | apply Kd.R_alloc | apply Kd.R_drewN | apply Kd.R_drew)); exact Kd.R_mono HO_12.out (fun _ hk => hk.2)⟩, ⟨by (with_reducible repeat (first | refine blk_drewN ?_ _ | refine blk_drew ?_ | refine blk_alloc ?_ _)); exact BK235.out⟩, ⟨by (with_reducible repeat (first | refine blk_drewN ?_ _ | refine blk_drew ?_ | refine blk_alloc ?_ _)); exact BK241.out⟩, ⟨by repeat (first | (with_reducible first | exact HB.out | apply below_alloc | apply pw_below_drewN | apply below_drew1 | refine below_set ?_ GE235.out | refine below_set ?_ GE241.out) | exact HB.out)⟩⟩
                     ·rw [if_neg c55] at H
                      exact absurd H (by simp)
                    ·rw [if_neg c54] at H
                     exact absurd H (by simp)
                   ·rw [if_neg c53] at H
                    exact absurd H (by simp)
                  ·rw [if_neg c52] at H
                   have c52b0 : decide (x13_3 < (y251.length : Int)) = false := decide_eq_false c52
                   have c52b0L_ := c52b0
                   (try simp only [hl231_2] at c52b0L_); (try simp only [hl234_2] at c52b0L_); (try simp only [hl240_2] at c52b0L_)
                   clear c52
                   by_cases c61 : t242.length < 3518437208883
                   ·rw [if_pos c61] at H
                    have LMc61 := Aside0.mk c61
                    clear c61
                    obtain ⟨y257, hy257⟩ : ∃ y_ : List (S65), y_ = (t242 ++ [(⟨x7_2, wrap64 (((rd_T65 x4_2 t233).f1) + ((rd_T65 t236 t239).f1)), y251⟩ : S65)]) := ⟨_, rfl⟩
                    replace H : (haystackref11_Lengths.l1 k3 y257 x5_3 (wrap64 (x7_2 + 1))) = some (r1, r2) := by first | (rw [hy257]; with_reducible exact H) | (have H2_ := (Option.bind_some _ _).symm.trans H; rw [hy257]; with_reducible exact H2_) | (have H2_ := (Option.bind_some _ _).symm.trans H; with_reducible exact H2_) | with_reducible exact H | (rw [hy257]; exact H) | exact H
                    have Ny257 := Aside0.mk hy257
                    clear hy257
                    have H' := Aside0.mk H
                    clear H
                    obtain ⟨Ao62, co62, eo62⟩ := Kd.R_slice HO_12.out
                    subst eo62
                    have hnb63 := NB235_241.out
                    have hnc63 := NB241_235.out
                    have hcz64_0 : wr.cell? ⟨gb235, 0, none⟩ = some (.int .i64 ((rd_T65 x4_2 t233).f0)) := (blk_cell BK235.out 0).trans rfl
                    have hcz64_1 : wr.cell? ⟨gb235, 1, none⟩ = some (.int .i64 ((rd_T65 x4_2 t233).f1)) := (blk_cell BK235.out 1).trans rfl
                    have hcz64_2 : wr.cell? ⟨gb235, 2, none⟩ = some (.slice A234_2 ((rd_T65 x4_2 t233).f2).length c234_2) := (blk_cell BK235.out 2).trans rfl
                    have hfz64_0 := blk_frozen BK235.out 0
                    have hfz64_1 := blk_frozen BK235.out 1
                    have hfz64_2 := blk_frozen BK235.out 2
                    have hcz65_0 : wr.cell? ⟨gb241, 0, none⟩ = some (.int .i64 ((rd_T65 t236 t239).f0)) := (blk_cell BK241.out 0).trans rfl
                    have hcz65_1 : wr.cell? ⟨gb241, 1, none⟩ = some (.int .i64 ((rd_T65 t236 t239).f1)) := (blk_cell BK241.out 1).trans rfl
                    have hcz65_2 : wr.cell? ⟨gb241, 2, none⟩ = some (.slice A240_2 ((rd_T65 t236 t239).f2).length c240_2) := (blk_cell BK241.out 2).trans rfl
                    have hfz65_0 := blk_frozen BK241.out 0
                    have hfz65_1 := blk_frozen BK241.out 1
                    have hfz65_2 := blk_frozen BK241.out 2
                    go_wp2_with (first | ((with_reducible refine gate_builtin (b := .append) (xs := #[.tmp 93, .tmp 102]) rfl ?_); at_builtin; refine Kd.N_append k65 (w0 := w) w.heap.size rfl (.tmp 93) (.tmp 102) 63 65 (.agg #[(.int .i64 0), (.int .i64 0), (.slice none 0 0)]) 40 rfl Try.underlying63 info65 rfl (by decide) (by omega) v243 t242 (⟨x7_2, wrap64 (((rd_T65 x4_2 t233).f1) + ((rd_T65 t236 t239).f1)), y251⟩ : S65) [.int .i64 x7_2, .int .i64 (wrap64 (((rd_T65 x4_2 t233).f1) + ((rd_T65 t236 t239).f1))), .slice Ao62 y251.length co62] (fun k_ => some k_ ≠ (v221 : Value).ownBlock ∧ k_ ≠ gb235 ∧ k_ ≠ gb241) (fun k_ => ((fun k_ => some k_ ≠ (v221 : Value).ownBlock ∧ k_ ≠ gb235 ∧ k_ ≠ gb241)) k_ ∧ some k_ ≠ (v243 : Value).ownBlock) rfl rfl ?aP (fun _ hk => hk) ?aF ?aO ?aB ?aS ?aL ?_; (case aP => exact (k65_mkF _ _ (⟨x7_2, wrap64 (((rd_T65 x4_2 t233).f1) + ((rd_T65 t236 t239).f1)), y251⟩ : S65) (Kd.R_reads' (Kd.R_mono (ok' := (fun k_ => ((fun k_ => some k_ ≠ (v221 : Value).ownBlock ∧ k_ ≠ gb235 ∧ k_ ≠ gb241)) k_ ∧ some k_ ≠ (v243 : Value).ownBlock)) (Kd.R_types (Kd.R_types (Kd.R_apart' (HO_12.out) (Kd.N_typed HO_4.out) (by decide)) BK235.out (by decide)) BK241.out (by decide)) (fun k_ hk => ⟨⟨hk.1.1.1, ⟨hk.1.2, hk.2⟩⟩, hk.1.1.2⟩))).2.1 (Kd.R_F (Kd.R_mono (ok' := (fun k_ => ((fun k_ => some k_ ≠ (v221 : Value).ownBlock ∧ k_ ≠ gb235 ∧ k_ ≠ gb241)) k_ ∧ some k_ ≠ (v243 : Value).ownBlock)) (Kd.R_types (Kd.R_types (Kd.R_apart' (HO_12.out) (Kd.N_typed HO_4.out) (by decide)) BK235.out (by decide)) BK241.out (by decide)) (fun k_ hk => ⟨⟨hk.1.1.1, ⟨hk.1.2, hk.2⟩⟩, hk.1.1.2⟩))))); (case aB => exact (by repeat (first | (with_reducible first | exact HB.out | apply below_alloc | apply pw_below_drewN | apply below_drew1 | refine below_set ?_ GE235.out | refine below_set ?_ GE241.out) | exact HB.out))); (case aF => exact (fun k_ hk => ⟨Kd.fresh' (Kd.R_lt (by (with_reducible repeat (first | apply Kd.R_alloc | apply Kd.R_drewN | apply Kd.R_drew)); exact HO_5.out)) k_ hk, Kd.freshB (g := gb235) (o := .cells #[.int .i64 ((rd_T65 x4_2 t233).f0), .int .i64 ((rd_T65 x4_2 t233).f1), .slice A234_2 ((rd_T65 x4_2 t233).f2).length c234_2] 65 (0, 0)) (by (with_reducible repeat (first | refine blk_drewN ?_ _ | refine blk_drew ?_ | refine blk_alloc ?_ _)); exact BK235.out) k_ hk, Kd.freshB (g := gb241) (o := .cells #[.int .i64 ((rd_T65 t236 t239).f0), .int .i64 ((rd_T65 t236 t239).f1), .slice A240_2 ((rd_T65 t236 t239).f2).length c240_2] 65 (0, 0)) (by (with_reducible repeat (first | refine blk_drewN ?_ _ | refine blk_drew ?_ | refine blk_alloc ?_ _)); exact BK241.out) k_ hk⟩)); (case aO => exact (by (with_reducible repeat (first | apply Kd.N_alloc | apply Kd.N_drewN | apply Kd.N_drew)); exact Kd.N_mono HO_4.out (fun _ hk => by first | exact ⟨hk.1, ⟨hk.2.2.1, hk.2.2.2⟩⟩ | simp only [ne_eq, hk, not_false_eq_true, and_self]))); (case aS => exact (below_size (by repeat (first | (with_reducible first | exact HB.out | apply below_alloc | apply pw_below_drewN | apply below_drew1 | refine below_set ?_ GE235.out | refine below_set ?_ GE241.out) | exact HB.out)))); (case aL => have := LMc61.out; omega); intro v258 w66 ho hb hg hat; rw [← Ny257.out] at ho; have n0_ := Aside0.mk (Kd.R_over' (by (with_reducible repeat (first | apply Kd.R_alloc | apply Kd.R_drewN | apply Kd.R_drew)); exact HO_5.out) (Kd.N_typed (by (with_reducible repeat (first | apply Kd.N_alloc | apply Kd.N_drewN | apply Kd.N_drew)); exact HO_4.out)) (by decide) hg); have n1_ := Aside0.mk (blk_grown (g := gb235) (o := .cells #[.int .i64 ((rd_T65 x4_2 t233).f0), .int .i64 ((rd_T65 x4_2 t233).f1), .slice A234_2 ((rd_T65 x4_2 t233).f2).length c234_2] 65 (0, 0)) (by (with_reducible repeat (first | refine blk_drewN ?_ _ | refine blk_drew ?_ | refine blk_alloc ?_ _)); exact BK235.out) hg (Kd.N_away HO_4.out (fun _ hk => hk.2.2.1))); have n2_ := Aside0.mk (blk_grown (g := gb241) (o := .cells #[.int .i64 ((rd_T65 t236 t239).f0), .int .i64 ((rd_T65 t236 t239).f1), .slice A240_2 ((rd_T65 t236 t239).f2).length c240_2] 65 (0, 0)) (by (with_reducible repeat (first | refine blk_drewN ?_ _ | refine blk_drew ?_ | refine blk_alloc ?_ _)); exact BK241.out) hg (Kd.N_away HO_4.out (fun _ hk => hk.2.2.2))); have n3_ := Aside0.mk (hb); have n4_ := Aside0.mk (ho); clear HO_5; clear BK235; clear BK241; clear HB; clear HO_4; clear HO_12; have HO_5 := n0_; have BK235 := n1_; have BK241 := n2_; have HB := n3_; have HO259 := n4_; clear n0_ n1_ n2_ n3_ n4_; clear ho hb hg hat))
                    go_roundg k3
                    case measure => have := HK1.out; have := HK2.out; have := HK3.out; omega
                    case rel => exact ⟨(y257), (x5_3), (wrap64 (x7_2 + 1)), (by first | rfl | (simp; done) | (simp [*]; done)), H', ⟨by have := HK1.out; have := HK2.out; have := HK3.out; omega⟩, ⟨by (with_reducible repeat (first | apply Kd.N_alloc | apply Kd.N_drewN | apply Kd.N_drew)); exact Kd.N_mono HO259.out (fun _ hk => hk.1)⟩, ⟨by (with_reducible repeat (first | apply Kd.R_alloc | apply Kd.R_drewN | apply Kd.R_drew)); exact Kd.R_mono HO_5.out (fun _ hk => trivial)⟩, ⟨by repeat (first | (with_reducible first | exact HB.out | apply below_alloc | apply pw_below_drewN | apply below_drew1 | refine below_set ?_ GE235.out | refine below_set ?_ GE241.out) | exact HB.out)⟩⟩
                   ·rw [if_neg c61] at H
                    exact absurd H (by simp)
               ·rw [if_neg c35] at H
                exact absurd H (by simp)
              ·rw [if_neg c34] at H
               exact absurd H (by simp)
             ·rw [if_neg c32] at H
              exact absurd H (by simp)
            ·rw [if_neg c31] at H
             exact absurd H (by simp)
           ·rw [if_neg c28] at H
            exact absurd H (by simp)
          ·rw [if_neg c27] at H
           exact absurd H (by simp)
         ·rw [if_neg c25] at H
          have c25b0 : decide (1 < (x4_2.length : Int)) = false := decide_eq_false c25
          have c25b0L_ := c25b0
          (try simp only [hl231_2] at c25b0L_); (try simp only [hl234_2] at c25b0L_); (try simp only [hl240_2] at c25b0L_)
          have c25b1 : decide (1 < x4_2.length) = false := decide_eq_false (by omega)
          have c25b1L_ := c25b1
          (try simp only [hl231_2] at c25b1L_); (try simp only [hl234_2] at c25b1L_); (try simp only [hl240_2] at c25b1L_)
          clear c25
          simp only [Option.some.injEq, Prod.mk.injEq] at H
          obtain ⟨rfl, rfl⟩ := H
          obtain ⟨Ao67, co67, eo67⟩ := Kd.N_slice HO_4.out
          subst eo67
          go_wp2
          go_ret2
          exact ⟨_, by first | rfl | (simp [errW_none, errW_some] <;> rfl) | (simp [*, errW_none, errW_some] <;> rfl), by (with_reducible repeat (first | apply Kd.R_alloc | apply Kd.R_drewN | apply Kd.R_drew)); exact HO_5.out, by repeat (first | (with_reducible first | exact HB.out | apply below_alloc | apply pw_below_drewN | apply below_drew1) | exact HB.out)⟩
  ·rw [if_neg c4] at H
   exact absurd H (by simp)
 ·replace c3 := Bool.eq_false_iff.mpr c3
  subst c3
  have H1 : (some (([] : List Int), 2)) = some (r1, r2) := by rw [if_neg (show ¬ (false = true) by decide)] at H; exact H
  clear H
  have H := H1
  clear H1
  simp only [Option.some.injEq, Prod.mk.injEq] at H
  obtain ⟨rfl, rfl⟩ := H
  go_enter Try.func11, Try.ntmps11
  go_wp2_with (first | ((with_reducible refine gate_callee (f := 26) rfl ?_); refine goesL_ (some 15) rfl rfl Try.func26 (by kernel_rfl) rfl #[.slice A0 l0.length c0] rfl (by (try simp only [List.map_toArray, List.map_cons, List.map_nil]); first | done | rfl | (simp only [List.length_drop, List.length_take]; rfl)) ?_; (with_reducible refine (haystackref11_counted.calls k _ _ l0 false _ ?side1 ?side2 A2.out).mono ?_); (case side1 => repeat (first | exact HR0.out | (with_reducible refine Kd.C_alloc ?_ _) | (with_reducible refine Kd.C_drewN ?_ _) | (with_reducible refine Kd.C_drew ?_))); (case side2 => exact HC0.out); rintro e w' ⟨rfl, ⟨nd, rfl⟩⟩; refine ⟨_, rfl, ?_⟩))
  go_ret2
  exact ⟨_, by first | rfl | (simp [errW_none, errW_some] <;> rfl) | (simp [*, errW_none, errW_some] <;> rfl), by first | exact Kd.R_nil _ _ _ _ _ | exact Kd.N_nil _ _ _ _ _ | exact Kd.V_nil _ _ _ _ _ | exact Kd.Q_nil _ _ _ _ _ | exact Kd.S_nil _ _ _ _ _, by repeat (first | (with_reducible first | exact HB.out | apply below_alloc | apply pw_below_drewN | apply below_drew1) | exact HB.out)⟩

end Go.Proofs.Ytceompmfmceicaa.PHuffTells
