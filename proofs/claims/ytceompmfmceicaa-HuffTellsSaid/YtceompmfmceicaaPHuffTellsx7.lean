-- written by a program of this project (print2)
import Derived.Test.YtceompmfmceicaaPHuffTellsx0
import Derived.Test.YtceompmfmceicaaPHuffTellsx1
import Derived.Test.YtceompmfmceicaaPHuffTellsx3
import Derived.Test.YtceompmfmceicaaPHuffTellsx4
import Derived.Test.YtceompmfmceicaaPHuffTellsx6
namespace Go.Proofs.Ytceompmfmceicaa.PHuffTells
open Go.RowKit Go.Proofs.YtceompmfmceicaaW.PrintMine Go.Proofs.YtceompmfmceicaaW.PrintWords Go.Proofs.YtceompmfmceicaaW.PrintLast Go.Proofs.YtceompmfmceicaaW.PrintMore
attribute [local go_sem] max2_int min2_int max_two min_two max_three min_three max_four min_four   -- for this text's walks alone
set_option linter.unusedVariables false
set_option linter.unusedSimpArgs false

attribute [local go_sem high] eqA33
/-! ### huff_right: function 33 -/
def huff_right.l0 : Nat → List (S33) → List Int → List (S33) → Int → Int → Option (Bool)
 | 0, _, _, _, _, _ => none
 | k + 1, x0, x3, x8, x9, x10 => if x10 < x9 then (if 0 ≤ x10 then (if x10 < (x8.length : Int) then (if x3.length < 17592186044416 then (huff_right.l0 k x0 (x3 ++ [(rd_T33 x8 x10).f0]) x8 x9 (wrap64 (x10 + 1))) else (none)) else (none)) else (none)) else ((huff_Codes.f x3).bind fun bt149 => (if bt149.2 = 0 then ((api_Code_47.f k bt149.1 x0).bind fun t153 => (some t153)) else (some false)))
def huff_right.f (k : Nat) (l0 : List (S33)) : Option (Bool) := huff_right.l0 k l0 ([] : List Int) l0 (l0.length : Int) 0
theorem huff_right.mono_l : ∀ k, (∀ y0 y1 y2 y3 y4, LeO (huff_right.l0 k y0 y1 y2 y3 y4) (huff_right.l0 (k + 1) y0 y1 y2 y3 y4))
 | 0 => fun _ _ _ _ _ r h => by simp [huff_right.l0] at h
 | k + 1 => by
  have ih0 := huff_right.mono_l k
  ·intro y0 y1 y2 y3 y4
   unfold huff_right.l0
   repeat' first
   | (with_reducible exact ih0 _ _ _ _ _)
   | (with_reducible exact api_Code_47.mono _ _ _)
   | (with_reducible exact LeO.refl _)
   | (with_reducible exact LeO.none _)
   | (with_reducible refine LeO.ite ?_ ?_)
   | (with_reducible refine LeO.bind ?_ (fun _ => ?_))
   | exact ih0 _ _ _ _ _
   | exact api_Code_47.mono _ _ _
   | exact LeO.none _
   | refine LeO.ite ?_ ?_
   | refine LeO.bind ?_ (fun _ => ?_)
theorem huff_right.mono : ∀ a0 k, LeO (huff_right.f k a0) (huff_right.f (k + 1) a0) := by
 intro a0 k
 have ih0 := huff_right.mono_l k
 unfold huff_right.f
 repeat' first
   | (with_reducible exact ih0 _ _ _ _ _)
   | (with_reducible exact api_Code_47.mono _ _ _)
   | (with_reducible exact LeO.refl _)
   | (with_reducible exact LeO.none _)
   | (with_reducible refine LeO.ite ?_ ?_)
   | (with_reducible refine LeO.bind ?_ (fun _ => ?_))
   | exact ih0 _ _ _ _ _
   | exact api_Code_47.mono _ _ _
   | exact LeO.none _
   | refine LeO.ite ?_ ?_
   | refine LeO.bind ?_ (fun _ => ?_)
set_option maxHeartbeats 8000000 in
set_option maxRecDepth 100000 in
theorem huff_right.calls (k : Nat) (A0 : Option Addr) (c0 : Nat) (l0 : List (S33)) (r : Bool) (w : World) (hr0 : Kd.C k33 w A0 l0.length l0) (hc0 : l0.length ≤ c0) (h : huff_right.f k l0 = some r) :
  Calls Try.prog 33 #[.slice A0 l0.length c0] w fun e w' => e = .returned (.bool r) ∧ Below w.heap.size w w' := by
 have hu33 := Try.underlying33
 have HR0 := Aside0.mk hr0
 have HC0 := Aside0.mk hc0
 clear hr0 hc0
 have HB := Aside0.mk (Below.refl w.heap.size w)
 have H : (huff_right.l0 k l0 ([] : List Int) l0 (l0.length : Int) 0) = some r := h
 clear h
 have H' := Aside0.mk H
 clear H
 go_enter Try.func33, Try.ntmps33
 go_wp2
 go_loopg [3, 10] k (fun kq v3 v10 w' => ∃ (x3_1 : List Int) (x10_1 : Int), v10 = .int .i64 x10_1 ∧ Aside0 (huff_right.l0 kq l0 x3_1 l0 (l0.length : Int) x10_1 = some r) ∧ Aside0 (kq ≤ k) ∧ Aside0 (Kd.R (Kd.int .i64) 3 w' w.heap.size (fun _ => True) v3 x3_1) ∧ Aside0 (Below w.heap.size w w'))
 case atStart => exact ⟨(([] : List Int)), (0), (by first | rfl | (simp; done) | (simp [*]; done)), H', ⟨Nat.le_refl _⟩, ⟨by first | exact Kd.R_nil _ _ _ _ _ | exact Kd.N_nil _ _ _ _ _ | exact Kd.V_nil _ _ _ _ _ | exact Kd.Q_nil _ _ _ _ _ | exact Kd.S_nil _ _ _ _ _⟩, ⟨by repeat (first | (with_reducible first | exact HB.out | apply below_alloc | apply pw_below_drewN | apply below_drew1) | exact HB.out)⟩⟩
 case round =>
  clear H'
  obtain ⟨x3_1, x10_1, rfl, HA, HK1, HO_3, HB⟩ := hrel
  cases gk with
  | zero => exact absurd HA.out (by simp [huff_right.l0])
  | succ k1 =>
   have H := HA.out
   clear HA
   simp only [huff_right.l0] at H
   by_cases c2 : x10_1 < (l0.length : Int)
   ·rw [if_pos c2] at H
    have c2b0 : decide (x10_1 < (l0.length : Int)) = true := decide_eq_true c2
    clear c2
    by_cases c3 : 0 ≤ x10_1
    ·rw [if_pos c3] at H
     have c3b0 : decide (0 ≤ x10_1) = true := decide_eq_true c3
     clear c3
     by_cases c4 : x10_1 < (l0.length : Int)
     ·rw [if_pos c4] at H
      have c4b0 : decide (x10_1 < (l0.length : Int)) = true := decide_eq_true c4
      clear c4
      by_cases c5 : x3_1.length < 17592186044416
      ·rw [if_pos c5] at H
       have LMc5 := Aside0.mk c5
       clear c5
       obtain ⟨y146, hy146⟩ : ∃ y_ : List Int, y_ = (x3_1 ++ [(rd_T33 l0 x10_1).f0]) := ⟨_, rfl⟩
       replace H : (huff_right.l0 k1 l0 y146 l0 (l0.length : Int) (wrap64 (x10_1 + 1))) = some r := by first | (rw [hy146]; with_reducible exact H) | (have H2_ := (Option.bind_some _ _).symm.trans H; rw [hy146]; with_reducible exact H2_) | (have H2_ := (Option.bind_some _ _).symm.trans H; with_reducible exact H2_) | with_reducible exact H | (rw [hy146]; exact H) | exact H
       have Ny146 := Aside0.mk hy146
       clear hy146
       have H' := Aside0.mk H
       clear H
       have p144 : 0 ≤ (x10_1 : Int) := of_decide_eq_true (by first | (with_reducible assumption) | assumption)
       have q144 : x10_1 < (l0.length : Int) := of_decide_eq_true (by first | (with_reducible assumption) | assumption)
       obtain ⟨ad144, e144, hx144_0, hx144_1⟩ := at_T33 HR0.out x10_1 p144 q144
       cases e144
       replace hx144_0 := (HB.out.cell (World.block_lt_of_cell? w _ hx144_0)).trans hx144_0
       replace hx144_1 := (HB.out.cell (World.block_lt_of_cell? w _ hx144_1)).trans hx144_1
       replace p144 := eq_true p144
       replace q144 := eq_true q144
       go_wp2_with (first | ((with_reducible refine gate_dst (N := 5) rfl ?_); refine box_event ?hg (N := 5) ?hd (cs := #[.int .i64 0, .int .u64 0]) (t := 33) ?hr ?_; (case hd => rfl); (case hg => rfl); (case hr => first | (go_simp; done) | (go_simp; rfl)); intro gb145 hg w6 hbox hb; have n0_ := Aside0.mk (Kd.R_below (by (with_reducible repeat (first | apply Kd.R_alloc | apply Kd.R_drewN | apply Kd.R_drew)); exact HO_3.out) hb); have n1_ := Aside0.mk (below_step (by repeat (first | (with_reducible first | exact HB.out | apply below_alloc | apply pw_below_drewN | apply below_drew1) | exact HB.out)) hb); have n2_ := Aside0.mk (hbox); have n3_ := Aside0.mk ((by rw [hg]; exact (below_size (by repeat (first | (with_reducible first | exact HB.out | apply below_alloc | apply pw_below_drewN | apply below_drew1) | exact HB.out))) : w.heap.size ≤ gb145)); have n4_ := Aside0.mk ((by rw [hg]; exact (below_size (by repeat (first | (with_reducible first | exact HB.out | apply below_alloc | apply pw_below_drewN | apply below_drew1) | exact HB.out))) : w.heap.size ≤ gb145)); clear HO_3; clear HB; have HO_3 := n0_; have HB := n1_; have BK145 := n2_; have GW145 := n3_; have GE145 := n4_; clear n0_ n1_ n2_ n3_ n4_; clear hb hbox hg; have hcz7_0 : w6.cell? ⟨gb145, 0, none⟩ = some (.int .i64 0) := (blk_cell BK145.out 0).trans rfl; have hcz7_1 : w6.cell? ⟨gb145, 1, none⟩ = some (.int .u64 0) := (blk_cell BK145.out 1).trans rfl; have hfz7_0 := blk_frozen BK145.out 0; have hfz7_1 := blk_frozen BK145.out 1) | ((with_reducible refine gate_builtin (b := .append) (xs := #[.tmp 14, .tmp 17]) rfl ?_); at_builtin; refine Kd.R_append (Kd.int .i64) (w0 := w) w.heap.size rfl (.tmp 14) (.tmp 17) 22 3 (.int .i64 0) 8 rfl Try.underlying22 info3 rfl (by decide) (by omega) u3 x3_1 ((rd_T33 l0 x10_1).f0) [.int .i64 ((rd_T33 l0 x10_1).f0)] (fun _ => True) (fun _ => False) rfl (by first | (go_simp; done) | (go_simp; rfl)) ?aP (fun _ hk => hk.elim) ?aF ?aO ?aB ?aS ?aL ?_; (case aP => exact rfl); (case aB => exact (by repeat (first | (with_reducible first | exact HB.out | apply below_alloc | apply pw_below_drewN | apply below_drew1 | refine below_set ?_ GE145.out) | exact HB.out))); (case aF => exact (fun _ _ => trivial)); (case aO => exact (by (with_reducible repeat (first | apply Kd.R_alloc | apply Kd.R_drewN | apply Kd.R_drew)); exact Kd.R_mono (Kd.R_far (p := ⟨gb145, 1, none⟩) (Kd.R_far (p := ⟨gb145, 0, none⟩) (Kd.R_types HO_3.out BK145.out (by decide)) (fun _ hk => hk.2) (.int .i64 ((rd_T33 l0 x10_1).f0))) (fun _ hk => hk.2) (.int .u64 ((rd_T33 l0 x10_1).f1))) (fun _ hk => trivial))); (case aS => exact (below_size (by repeat (first | (with_reducible first | exact HB.out | apply below_alloc | apply pw_below_drewN | apply below_drew1 | refine below_set ?_ GE145.out) | exact HB.out)))); (case aL => have := LMc5.out; omega); intro v147 w8 ho hb hg hat; rw [← Ny146.out] at ho; have n0_ := Aside0.mk (blk_grown (g := gb145) (o := .cells #[.int .i64 ((rd_T33 l0 x10_1).f0), .int .u64 ((rd_T33 l0 x10_1).f1)] 33 (0, 0)) (by (with_reducible repeat (first | refine blk_drewN ?_ _ | refine blk_drew ?_ | refine blk_alloc ?_ _)); refine blk_put (cs := #[.int .i64 ((rd_T33 l0 x10_1).f0), .int .u64 0]) ?_ 1 _ rfl; (with_reducible repeat (first | refine blk_drewN ?_ _ | refine blk_drew ?_ | refine blk_alloc ?_ _)); refine blk_put (cs := #[.int .i64 0, .int .u64 0]) ?_ 0 _ rfl; (with_reducible repeat (first | refine blk_drewN ?_ _ | refine blk_drew ?_ | refine blk_alloc ?_ _)); exact BK145.out) hg (Kd.R_ne HO_3.out BK145.out (by decide))); have n1_ := Aside0.mk (hb); have n2_ := Aside0.mk (ho); clear BK145; clear HB; clear HO_3; have BK145 := n0_; have HB := n1_; have HO148 := n2_; clear n0_ n1_ n2_; clear ho hb hg hat))
       go_roundg k1
       case measure => have := HK1.out; omega
       case rel => exact ⟨(y146), (wrap64 (x10_1 + 1)), (by first | rfl | (simp; done) | (simp [*]; done)), H', ⟨by have := HK1.out; omega⟩, ⟨by (with_reducible repeat (first | apply Kd.R_alloc | apply Kd.R_drewN | apply Kd.R_drew)); exact HO148.out⟩, ⟨by repeat (first | (with_reducible first | exact HB.out | apply below_alloc | apply pw_below_drewN | apply below_drew1 | refine below_set ?_ GE145.out) | exact HB.out)⟩⟩
      ·rw [if_neg c5] at H
       exact absurd H (by simp)
     ·rw [if_neg c4] at H
      exact absurd H (by simp)
    ·rw [if_neg c3] at H
     exact absurd H (by simp)
   ·rw [if_neg c2] at H
    have c2b0 : decide (x10_1 < (l0.length : Int)) = false := decide_eq_false c2
    clear c2
    replace H := Option.bind_eq_some_iff.mp H
    obtain ⟨⟨t149, t150⟩, A90, H⟩ := H
    replace H : (if t150 = 0 then ((api_Code_47.f k1 t149 l0).bind fun t153 => (some t153)) else (some false)) = some r := H
    have A9 := Aside0.mk A90
    clear A90
    by_cases c10 : t150 = 0
    ·rw [if_pos c10] at H
     have c10b0 : (t150 == 0) = true := beq_iff_eq.mpr c10
     have c10b1 : (t150 != 0) = false := bne_eq_false_iff_eq.mpr c10
     clear c10
     replace H := Option.bind_eq_some_iff.mp H
     obtain ⟨t153, A110, H⟩ := H
     replace H : (some t153) = some r := H
     have A11 := Aside0.mk A110
     clear A110
     obtain rfl := Option.some.inj H
     obtain ⟨Ao12, co12, eo12⟩ := Kd.R_slice HO_3.out
     subst eo12
     go_wp2_with (first | ((with_reducible refine gate_callee (f := 10) rfl ?_); refine goesL_ (some 22) rfl rfl Try.func10 (by kernel_rfl) rfl #[.slice Ao12 x3_1.length co12] rfl (by (try simp only [List.map_toArray, List.map_cons, List.map_nil]); first | done | rfl | (simp only [List.length_drop, List.length_take]; rfl)) ?_; (with_reducible refine (huff_Codes.calls _ _ x3_1 t149 t150 _ ?side1 ?side2 A9.out).mono ?_); (case side1 => repeat (first | exact (Kd.R_reads' HO_3.out).2.2 | (with_reducible refine Kd.C_alloc ?_ _) | (with_reducible refine Kd.C_drewN ?_ _) | (with_reducible refine Kd.C_drew ?_))); (case side2 => exact (Kd.R_reads' HO_3.out).2.1); rintro e w13 ⟨v151, rfl, ho0, hb⟩; refine ⟨_, rfl, ?_⟩; have n0_ := Aside0.mk (Kd.R_below (by (with_reducible repeat (first | apply Kd.R_alloc | apply Kd.R_drewN | apply Kd.R_drew)); exact HO_3.out) hb); have n1_ := Aside0.mk (Kd.R_lower ho0 (below_size (by repeat (first | (with_reducible first | exact HB.out | apply below_alloc | apply pw_below_drewN | apply below_drew1) | exact HB.out)))); have n2_ := Aside0.mk (below_step (by repeat (first | (with_reducible first | exact HB.out | apply below_alloc | apply pw_below_drewN | apply below_drew1) | exact HB.out)) hb); clear HO_3; clear HB; have HO_3 := n0_; have HO152 := n1_; have HB := n2_; clear n0_ n1_ n2_; (try clear hb); (try clear hb2); (try clear hk); (try clear hi); (try clear ho0); obtain ⟨Ao14, co14, eo14⟩ := Kd.R_slice HO152.out; subst eo14) | (go_at_call 47; (with_reducible refine (api_Code_47.calls k1 _ _ t149 _ _ l0 t153 _ ?side1 ?side2 ?side3 ?side4 A11.out).mono ?_); (case side1 => repeat (first | exact (Kd.R_reads' HO152.out).2.2 | (with_reducible refine Kd.C_alloc ?_ _) | (with_reducible refine Kd.C_drewN ?_ _) | (with_reducible refine Kd.C_drew ?_))); (case side2 => exact (Kd.R_reads' HO152.out).2.1); (case side3 => repeat (first | exact (Kd.C_below HR0.out HB.out) | (with_reducible refine Kd.C_alloc ?_ _) | (with_reducible refine Kd.C_drewN ?_ _) | (with_reducible refine Kd.C_drew ?_))); (case side4 => exact HC0.out); rintro e w' ⟨rfl, ⟨nd, rfl⟩⟩))
     go_ret
     exact ⟨by first | rfl | (simp [errW_none, errW_some] <;> rfl) | (simp [*, errW_none, errW_some] <;> rfl), by repeat (first | (with_reducible first | exact HB.out | apply below_alloc | apply pw_below_drewN | apply below_drew1) | exact HB.out)⟩
    ·rw [if_neg c10] at H
     have c10b0 : (t150 == 0) = false := beq_eq_false_iff_ne.mpr c10
     have c10b1 : (t150 != 0) = true := bne_iff_ne.mpr c10
     obtain rfl := Option.some.inj H
     obtain ⟨Ao15, co15, eo15⟩ := Kd.R_slice HO_3.out
     subst eo15
     go_wp2_with (first | ((with_reducible refine gate_callee (f := 10) rfl ?_); refine goesL_ (some 22) rfl rfl Try.func10 (by kernel_rfl) rfl #[.slice Ao15 x3_1.length co15] rfl (by (try simp only [List.map_toArray, List.map_cons, List.map_nil]); first | done | rfl | (simp only [List.length_drop, List.length_take]; rfl)) ?_; (with_reducible refine (huff_Codes.calls _ _ x3_1 t149 t150 _ ?side1 ?side2 A9.out).mono ?_); (case side1 => repeat (first | exact (Kd.R_reads' HO_3.out).2.2 | (with_reducible refine Kd.C_alloc ?_ _) | (with_reducible refine Kd.C_drewN ?_ _) | (with_reducible refine Kd.C_drew ?_))); (case side2 => exact (Kd.R_reads' HO_3.out).2.1); rintro e w16 ⟨v151, rfl, ho0, hb⟩; refine ⟨_, rfl, ?_⟩; have n0_ := Aside0.mk (Kd.R_below (by (with_reducible repeat (first | apply Kd.R_alloc | apply Kd.R_drewN | apply Kd.R_drew)); exact HO_3.out) hb); have n1_ := Aside0.mk (Kd.R_lower ho0 (below_size (by repeat (first | (with_reducible first | exact HB.out | apply below_alloc | apply pw_below_drewN | apply below_drew1) | exact HB.out)))); have n2_ := Aside0.mk (below_step (by repeat (first | (with_reducible first | exact HB.out | apply below_alloc | apply pw_below_drewN | apply below_drew1) | exact HB.out)) hb); clear HO_3; clear HB; have HO_3 := n0_; have HO152 := n1_; have HB := n2_; clear n0_ n1_ n2_; (try clear hb); (try clear hb2); (try clear hk); (try clear hi); (try clear ho0)))
     go_ret
     exact ⟨by first | rfl | (simp [errW_none, errW_some] <;> rfl) | (simp [*, errW_none, errW_some] <;> rfl), by repeat (first | (with_reducible first | exact HB.out | apply below_alloc | apply pw_below_drewN | apply below_drew1) | exact HB.out)⟩

/-! ### api_Code_36: function 36 -/
def api_Code_36.l0 : Nat → List (S33) → Int → Int → Int → Int → Option (Int)
 | 0, _, _, _, _, _ => none
 | k + 1, x0, x7, x8, x155000, x155001 => if x8 < x7 then (if 0 ≤ x8 then (if x8 < (x0.length : Int) then (if (x155000 == ((rd_T33 x0 x8).f0) && (x155001 == ((rd_T33 x0 x8).f1))) = true then (some x8) else (api_Code_36.l0 k x0 x7 (wrap64 (x8 + 1)) x155000 x155001)) else (none)) else (none)) else (some (-1))
def api_Code_36.f (k : Nat) (l0 : List (S33)) (a1_0 : Int) (a1_1 : Int) : Option (Int) := api_Code_36.l0 k l0 (l0.length : Int) 0 a1_0 a1_1
theorem api_Code_36.mono_l : ∀ k, (∀ y0 y1 y2 y3 y4, LeO (api_Code_36.l0 k y0 y1 y2 y3 y4) (api_Code_36.l0 (k + 1) y0 y1 y2 y3 y4))
 | 0 => fun _ _ _ _ _ r h => by simp [api_Code_36.l0] at h
 | k + 1 => by
  have ih0 := api_Code_36.mono_l k
  ·intro y0 y1 y2 y3 y4
   unfold api_Code_36.l0
   repeat' first
   | (with_reducible exact ih0 _ _ _ _ _)
   | (with_reducible exact LeO.refl _)
   | (with_reducible exact LeO.none _)
   | (with_reducible refine LeO.ite ?_ ?_)
   | (with_reducible refine LeO.bind ?_ (fun _ => ?_))
   | exact ih0 _ _ _ _ _
   | exact LeO.none _
   | refine LeO.ite ?_ ?_
   | refine LeO.bind ?_ (fun _ => ?_)
theorem api_Code_36.mono : ∀ a0 a1 a2 k, LeO (api_Code_36.f k a0 a1 a2) (api_Code_36.f (k + 1) a0 a1 a2) := by
 intro a0 a1 a2 k
 have ih0 := api_Code_36.mono_l k
 unfold api_Code_36.f
 repeat' first
   | (with_reducible exact ih0 _ _ _ _ _)
   | (with_reducible exact LeO.refl _)
   | (with_reducible exact LeO.none _)
   | (with_reducible refine LeO.ite ?_ ?_)
   | (with_reducible refine LeO.bind ?_ (fun _ => ?_))
   | exact ih0 _ _ _ _ _
   | exact LeO.none _
   | refine LeO.ite ?_ ?_
   | refine LeO.bind ?_ (fun _ => ?_)
set_option maxHeartbeats 8000000 in
set_option maxRecDepth 100000 in
theorem api_Code_36.calls (k : Nat) (A0 : Option Addr) (c0 : Nat) (l0 : List (S33)) (a1_0 : Int) (a1_1 : Int) (r : Int) (w : World) (hr0 : Kd.C k33 w A0 l0.length l0) (hc0 : l0.length ≤ c0) (h : api_Code_36.f k l0 a1_0 a1_1 = some r) :
  Calls Try.prog 36 #[.slice A0 l0.length c0, .agg #[.int .i64 a1_0, .int .u64 a1_1]] w fun e w' => e = .returned (.int .i64 r) ∧ Below w.heap.size w w' := by
 have hu33 := Try.underlying33
 have HR0 := Aside0.mk hr0
 have HC0 := Aside0.mk hc0
 clear hr0 hc0
 have HB := Aside0.mk (Below.refl w.heap.size w)
 have H : (api_Code_36.l0 k l0 (l0.length : Int) 0 a1_0 a1_1) = some r := h
 clear h
 have H' := Aside0.mk H
 clear H
 go_enter Try.func36, Try.ntmps36
 go_wp2_with (first | ((with_reducible refine gate_dst (N := 3) rfl ?_); refine box_event ?hg (N := 3) ?hd (cs := #[.int .i64 a1_0, .int .u64 a1_1]) (t := 33) ?hr ?_; (case hd => rfl); (case hg => rfl); (case hr => first | (go_simp; done) | (go_simp; rfl)); intro gb154 hg w3 hbox hb; have n0_ := Aside0.mk (below_step (by repeat (first | (with_reducible first | exact HB.out | apply below_alloc | apply pw_below_drewN | apply below_drew1) | exact HB.out)) hb); have n1_ := Aside0.mk (hbox); have n2_ := Aside0.mk ((by rw [hg]; exact (below_size (by repeat (first | (with_reducible first | exact HB.out | apply below_alloc | apply pw_below_drewN | apply below_drew1) | exact HB.out))) : w.heap.size ≤ gb154)); have n3_ := Aside0.mk ((by rw [hg]; exact (below_size (by repeat (first | (with_reducible first | exact HB.out | apply below_alloc | apply pw_below_drewN | apply below_drew1) | exact HB.out))) : w.heap.size ≤ gb154)); clear HB; have HB := n0_; have BK154 := n1_; have GW154 := n2_; have GE154 := n3_; clear n0_ n1_ n2_ n3_; clear hb hbox hg))
 repeat (go_quiet (first | ((with_reducible refine gate_dst (N := 3) rfl ?_); refine box_event ?hg (N := 3) ?hd (cs := #[.int .i64 a1_0, .int .u64 a1_1]) (t := 33) ?hr ?_; (case hd => rfl); (case hg => rfl); (case hr => first | (go_simp; done) | (go_simp; rfl)); intro gb154 hg w3 hbox hb; have n0_ := Aside0.mk (below_step (by repeat (first | (with_reducible first | exact HB.out | apply below_alloc | apply pw_below_drewN | apply below_drew1) | exact HB.out)) hb); have n1_ := Aside0.mk (hbox); have n2_ := Aside0.mk ((by rw [hg]; exact (below_size (by repeat (first | (with_reducible first | exact HB.out | apply below_alloc | apply pw_below_drewN | apply below_drew1) | exact HB.out))) : w.heap.size ≤ gb154)); have n3_ := Aside0.mk ((by rw [hg]; exact (below_size (by repeat (first | (with_reducible first | exact HB.out | apply below_alloc | apply pw_below_drewN | apply below_drew1) | exact HB.out))) : w.heap.size ≤ gb154)); clear HB; have HB := n0_; have BK154 := n1_; have GW154 := n2_; have GE154 := n3_; clear n0_ n1_ n2_ n3_; clear hb hbox hg)); try go_wp2_with (first | ((with_reducible refine gate_dst (N := 3) rfl ?_); refine box_event ?hg (N := 3) ?hd (cs := #[.int .i64 a1_0, .int .u64 a1_1]) (t := 33) ?hr ?_; (case hd => rfl); (case hg => rfl); (case hr => first | (go_simp; done) | (go_simp; rfl)); intro gb154 hg w3 hbox hb; have n0_ := Aside0.mk (below_step (by repeat (first | (with_reducible first | exact HB.out | apply below_alloc | apply pw_below_drewN | apply below_drew1) | exact HB.out)) hb); have n1_ := Aside0.mk (hbox); have n2_ := Aside0.mk ((by rw [hg]; exact (below_size (by repeat (first | (with_reducible first | exact HB.out | apply below_alloc | apply pw_below_drewN | apply below_drew1) | exact HB.out))) : w.heap.size ≤ gb154)); have n3_ := Aside0.mk ((by rw [hg]; exact (below_size (by repeat (first | (with_reducible first | exact HB.out | apply below_alloc | apply pw_below_drewN | apply below_drew1) | exact HB.out))) : w.heap.size ≤ gb154)); clear HB; have HB := n0_; have BK154 := n1_; have GW154 := n2_; have GE154 := n3_; clear n0_ n1_ n2_ n3_; clear hb hbox hg)))
 go_loopg [8] k (fun kq v8 w' => ∃ (x8_1 : Int), v8 = .int .i64 x8_1 ∧ Aside0 (api_Code_36.l0 kq l0 (l0.length : Int) x8_1 a1_0 a1_1 = some r) ∧ Aside0 (kq ≤ k) ∧ Aside0 (w'.heap[gb154]? = some (.cells #[.int .i64 a1_0, .int .u64 a1_1] 33 (0, 0))) ∧ Aside0 (Below w.heap.size w w'))
 case atStart => exact ⟨(0), (by first | rfl | (simp; done) | (simp [*]; done)), H', ⟨Nat.le_refl _⟩, ⟨by (with_reducible repeat (first | refine blk_drewN ?_ _ | refine blk_drew ?_ | refine blk_alloc ?_ _)); exact BK154.out⟩, ⟨by repeat (first | (with_reducible first | exact HB.out | apply below_alloc | apply pw_below_drewN | apply below_drew1 | refine below_set ?_ GE154.out) | exact HB.out)⟩⟩
 case round =>
  clear H'
  try clear p2
  try clear c3
  obtain ⟨x8_1, rfl, HA, HK1, BK154, HB⟩ := hrel
  cases gk with
  | zero => exact absurd HA.out (by simp [api_Code_36.l0])
  | succ k1 =>
   have H := HA.out
   clear HA
   simp only [api_Code_36.l0] at H
   by_cases c4 : x8_1 < (l0.length : Int)
   ·rw [if_pos c4] at H
    have c4b0 : decide (x8_1 < (l0.length : Int)) = true := decide_eq_true c4
    clear c4
    by_cases c5 : 0 ≤ x8_1
    ·rw [if_pos c5] at H
     have c5b0 : decide (0 ≤ x8_1) = true := decide_eq_true c5
     clear c5
     by_cases c6 : x8_1 < (l0.length : Int)
     ·rw [if_pos c6] at H
      have c6b0 : decide (x8_1 < (l0.length : Int)) = true := decide_eq_true c6
      clear c6
      by_cases c7 : (a1_0 == ((rd_T33 l0 x8_1).f0) && (a1_1 == ((rd_T33 l0 x8_1).f1))) = true
      ·rw [if_pos c7] at H
       have c7b0 : (a1_0 == ((rd_T33 l0 x8_1).f0) && (a1_1 == ((rd_T33 l0 x8_1).f1))) = true := c7
       (try (have c7b1 : decide (a1_0 = ((rd_T33 l0 x8_1).f0) && (a1_1 == ((rd_T33 l0 x8_1).f1))) = true := by simpa using c7))
       (try (have c7b2 : (a1_0 == ((rd_T33 l0 x8_1).f0) && (a1_1 == ((rd_T33 l0 x8_1).f1))) = true := by simpa using c7))
       clear c7
       obtain rfl := Option.some.inj H
       have hcz8_0 : wr.cell? ⟨gb154, 0, none⟩ = some (.int .i64 a1_0) := (blk_cell BK154.out 0).trans rfl
       have hcz8_1 : wr.cell? ⟨gb154, 1, none⟩ = some (.int .u64 a1_1) := (blk_cell BK154.out 1).trans rfl
       have hfz8_0 := blk_frozen BK154.out 0
       have hfz8_1 := blk_frozen BK154.out 1
       have p155 : 0 ≤ (x8_1 : Int) := of_decide_eq_true (by first | (with_reducible assumption) | assumption)
       have q155 : x8_1 < (l0.length : Int) := of_decide_eq_true (by first | (with_reducible assumption) | assumption)
       obtain ⟨ad155, e155, hx155_0, hx155_1⟩ := at_T33 HR0.out x8_1 p155 q155
       cases e155
       replace hx155_0 := (HB.out.cell (World.block_lt_of_cell? w _ hx155_0)).trans hx155_0
       replace hx155_1 := (HB.out.cell (World.block_lt_of_cell? w _ hx155_1)).trans hx155_1
       replace p155 := eq_true p155
       replace q155 := eq_true q155
       go_wp2
       repeat (go_quiet (fail); try go_wp2)
       go_ret
       exact ⟨by first | rfl | (simp [errW_none, errW_some] <;> rfl) | (simp [*, errW_none, errW_some] <;> rfl), by repeat (first | (with_reducible first | exact HB.out | apply below_alloc | apply pw_below_drewN | apply below_drew1 | refine below_set ?_ GE154.out) | exact HB.out)⟩
      ·rw [if_neg c7] at H
       have c7b0 : (a1_0 == ((rd_T33 l0 x8_1).f0) && (a1_1 == ((rd_T33 l0 x8_1).f1))) = false := by simpa using c7
       (try (have c7b1 : decide (a1_0 = ((rd_T33 l0 x8_1).f0) && (a1_1 == ((rd_T33 l0 x8_1).f1))) = false := by simpa using c7))
       (try (have c7b2 : (a1_0 == ((rd_T33 l0 x8_1).f0) && (a1_1 == ((rd_T33 l0 x8_1).f1))) = false := by simpa using c7))
       (try (have c7b3 : ¬ (a1_0 = ((rd_T33 l0 x8_1).f0) && (a1_1 == ((rd_T33 l0 x8_1).f1))) := by simpa using c7))
       clear c7
       have H' := Aside0.mk H
       clear H
       have hcz9_0 : wr.cell? ⟨gb154, 0, none⟩ = some (.int .i64 a1_0) := (blk_cell BK154.out 0).trans rfl
       have hcz9_1 : wr.cell? ⟨gb154, 1, none⟩ = some (.int .u64 a1_1) := (blk_cell BK154.out 1).trans rfl
       have hfz9_0 := blk_frozen BK154.out 0
       have hfz9_1 := blk_frozen BK154.out 1
       have p155 : 0 ≤ (x8_1 : Int) := of_decide_eq_true (by first | (with_reducible assumption) | assumption)
       have q155 : x8_1 < (l0.length : Int) := of_decide_eq_true (by first | (with_reducible assumption) | assumption)
       obtain ⟨ad155, e155, hx155_0, hx155_1⟩ := at_T33 HR0.out x8_1 p155 q155
       cases e155
       replace hx155_0 := (HB.out.cell (World.block_lt_of_cell? w _ hx155_0)).trans hx155_0
       replace hx155_1 := (HB.out.cell (World.block_lt_of_cell? w _ hx155_1)).trans hx155_1
       replace p155 := eq_true p155
       replace q155 := eq_true q155
       go_wp2
       repeat (go_quiet (fail); try go_wp2)
       go_roundg k1
       case measure => have := HK1.out; omega
       case rel => exact ⟨(wrap64 (x8_1 + 1)), (by first | rfl | (simp; done) | (simp [*]; done)), H', ⟨by have := HK1.out; omega⟩, ⟨by (with_reducible repeat (first | refine blk_drewN ?_ _ | refine blk_drew ?_ | refine blk_alloc ?_ _)); exact BK154.out⟩, ⟨by repeat (first | (with_reducible first | exact HB.out | apply below_alloc | apply pw_below_drewN | apply below_drew1 | refine below_set ?_ GE154.out) | exact HB.out)⟩⟩
     ·rw [if_neg c6] at H
      exact absurd H (by simp)
    ·rw [if_neg c5] at H
     exact absurd H (by simp)
   ·rw [if_neg c4] at H
    have c4b0 : decide (x8_1 < (l0.length : Int)) = false := decide_eq_false c4
    clear c4
    obtain rfl := Option.some.inj H
    go_wp2
    repeat (go_quiet (fail); try go_wp2)
    go_ret
    exact ⟨by first | rfl | (simp [errW_none, errW_some] <;> rfl) | (simp [*, errW_none, errW_some] <;> rfl), by repeat (first | (with_reducible first | exact HB.out | apply below_alloc | apply pw_below_drewN | apply below_drew1 | refine below_set ?_ GE154.out) | exact HB.out)⟩

-- NOT PRINTED: function 49 (api_Code_49)

-- NOT PRINTED: function 37 (api_Code_37)

/-! ### bits_Get: function 38 -/
def bits_Get.f (a0_0 : Int) (l0_1 : List Int) (a1 : Int) : Option (Bool × Int) := (bits_Check.f a0_0 l0_1).bind fun t157 => (if t157 = true then (if a1 < 0 then (some (false, 3)) else (if a1 ≥ a0_0 then (some (false, 3)) else (if 0 ≤ (wrap64 (Int.tdiv a1 64)) then (if (wrap64 (Int.tdiv a1 64)) < (l0_1.length : Int) then (if 0 ≤ (Int.tmod a1 64) then (some (((Go.bits .and .u64 (shr .u64 (rd l0_1 (wrap64 (Int.tdiv a1 64))) (Int.tmod a1 64)) 1) == 1), 0)) else (none)) else (none)) else (none)))) else (some (false, 2)))
set_option maxHeartbeats 8000000 in
set_option maxRecDepth 100000 in
theorem bits_Get.calls (a0_0 : Int) (A0_1 : Option Addr) (c0_1 : Nat) (l0_1 : List Int) (a1 : Int) (r1 : Bool) (r2 : Int) (w : World) (hr0_1 : Kd.C (Kd.int .u64) w A0_1 l0_1.length l0_1) (hc0_1 : l0_1.length ≤ c0_1) (h : bits_Get.f a0_0 l0_1 a1 = some (r1, r2)) :
  Calls Try.prog 38 #[.agg #[.int .i64 a0_0, .slice A0_1 l0_1.length c0_1], .int .i64 a1] w fun e w' => e = .returned (.tuple #[.bool r1, .int .i64 r2]) ∧ Below w.heap.size w w' := by
 have hu45 := Try.underlying45
 have HR0_1 := Aside0.mk hr0_1
 have HC0_1 := Aside0.mk hc0_1
 clear hr0_1 hc0_1
 have HB := Aside0.mk (Below.refl w.heap.size w)
 have H : ((bits_Check.f a0_0 l0_1).bind fun t157 => (if t157 = true then (if a1 < 0 then (some (false, 3)) else (if a1 ≥ a0_0 then (some (false, 3)) else (if 0 ≤ (wrap64 (Int.tdiv a1 64)) then (if (wrap64 (Int.tdiv a1 64)) < (l0_1.length : Int) then (if 0 ≤ (Int.tmod a1 64) then (some (((Go.bits .and .u64 (shr .u64 (rd l0_1 (wrap64 (Int.tdiv a1 64))) (Int.tmod a1 64)) 1) == 1), 0)) else (none)) else (none)) else (none)))) else (some (false, 2)))) = some (r1, r2) := h
 clear h
 replace H := Option.bind_eq_some_iff.mp H
 obtain ⟨t157, A30, H⟩ := H
 replace H : (if t157 = true then (if a1 < 0 then (some (false, 3)) else (if a1 ≥ a0_0 then (some (false, 3)) else (if 0 ≤ (wrap64 (Int.tdiv a1 64)) then (if (wrap64 (Int.tdiv a1 64)) < (l0_1.length : Int) then (if 0 ≤ (Int.tmod a1 64) then (some (((Go.bits .and .u64 (shr .u64 (rd l0_1 (wrap64 (Int.tdiv a1 64))) (Int.tmod a1 64)) 1) == 1), 0)) else (none)) else (none)) else (none)))) else (some (false, 2))) = some (r1, r2) := H
 have A3 := Aside0.mk A30
 clear A30
 by_cases c4 : t157 = true
 ·subst c4
  have H1 : (if a1 < 0 then (some (false, 3)) else (if a1 ≥ a0_0 then (some (false, 3)) else (if 0 ≤ (wrap64 (Int.tdiv a1 64)) then (if (wrap64 (Int.tdiv a1 64)) < (l0_1.length : Int) then (if 0 ≤ (Int.tmod a1 64) then (some (((Go.bits .and .u64 (shr .u64 (rd l0_1 (wrap64 (Int.tdiv a1 64))) (Int.tmod a1 64)) 1) == 1), 0)) else (none)) else (none)) else (none)))) = some (r1, r2) := by rw [if_pos rfl] at H; exact H
  clear H
  have H := H1
  clear H1
  by_cases c5 : a1 < 0
  ·rw [if_pos c5] at H
   have c5b0 : decide (a1 < 0) = true := decide_eq_true c5
   clear c5
   simp only [Option.some.injEq, Prod.mk.injEq] at H
   obtain ⟨rfl, rfl⟩ := H
   go_enter Try.func38, Try.ntmps38
   go_wp2_with (first | ((with_reducible refine gate_dst (N := 2) rfl ?_); refine box_event ?hg (N := 2) ?hd (cs := #[.int .i64 a0_0, .slice A0_1 l0_1.length c0_1]) (t := 45) ?hr ?_; (case hd => rfl); (case hg => rfl); (case hr => first | (go_simp; done) | (go_simp; rfl)); intro gb156 hg w6 hbox hb; have n0_ := Aside0.mk (below_step (by repeat (first | (with_reducible first | exact HB.out | apply below_alloc | apply pw_below_drewN | apply below_drew1) | exact HB.out)) hb); have n1_ := Aside0.mk (hbox); have n2_ := Aside0.mk ((by rw [hg]; exact (below_size (by repeat (first | (with_reducible first | exact HB.out | apply below_alloc | apply pw_below_drewN | apply below_drew1) | exact HB.out))) : w.heap.size ≤ gb156)); have n3_ := Aside0.mk ((by rw [hg]; exact (below_size (by repeat (first | (with_reducible first | exact HB.out | apply below_alloc | apply pw_below_drewN | apply below_drew1) | exact HB.out))) : w.heap.size ≤ gb156)); clear HB; have HB := n0_; have BK156 := n1_; have GW156 := n2_; have GE156 := n3_; clear n0_ n1_ n2_ n3_; clear hb hbox hg; have hcz7_0 : w6.cell? ⟨gb156, 0, none⟩ = some (.int .i64 a0_0) := (blk_cell BK156.out 0).trans rfl; have hcz7_1 : w6.cell? ⟨gb156, 1, none⟩ = some (.slice A0_1 l0_1.length c0_1) := (blk_cell BK156.out 1).trans rfl; have hfz7_0 := blk_frozen BK156.out 0; have hfz7_1 := blk_frozen BK156.out 1) | ((with_reducible refine gate_callee (f := 34) rfl ?_); refine goesL_ (some 8) rfl rfl Try.func34 (by kernel_rfl) rfl #[.agg #[.int .i64 a0_0, .slice A0_1 l0_1.length c0_1]] rfl (by (try simp only [List.map_toArray, List.map_cons, List.map_nil]); first | done | rfl | (simp only [List.length_drop, List.length_take]; rfl)) ?_; (with_reducible refine (bits_Check.calls a0_0 _ _ l0_1 true _ ?side1 ?side2 A3.out).mono ?_); (case side1 => repeat (first | exact (Kd.C_below HR0_1.out HB.out) | (with_reducible refine Kd.C_alloc ?_ _) | (with_reducible refine Kd.C_drewN ?_ _) | (with_reducible refine Kd.C_drew ?_))); (case side2 => exact HC0_1.out); rintro e w8 ⟨rfl, hb⟩; refine ⟨_, rfl, ?_⟩; have n0_ := Aside0.mk (blk_below (g := gb156) (o := .cells #[.int .i64 a0_0, .slice A0_1 l0_1.length c0_1] 45 (0, 0)) (by (with_reducible repeat (first | refine blk_drewN ?_ _ | refine blk_drew ?_ | refine blk_alloc ?_ _)); exact BK156.out) hb); have n1_ := Aside0.mk (below_step (by repeat (first | (with_reducible first | exact HB.out | apply below_alloc | apply pw_below_drewN | apply below_drew1 | refine below_set ?_ GE156.out) | exact HB.out)) hb); clear BK156; clear HB; have BK156 := n0_; have HB := n1_; clear n0_ n1_; (try clear hb); (try clear hb2); (try clear hk); (try clear hi)))
   go_ret2
   exact ⟨by first | rfl | (simp [errW_none, errW_some] <;> rfl) | (simp [*, errW_none, errW_some] <;> rfl), by repeat (first | (with_reducible first | exact HB.out | apply below_alloc | apply pw_below_drewN | apply below_drew1 | refine below_set ?_ GE156.out) | exact HB.out)⟩
  ·rw [if_neg c5] at H
   have c5b0 : decide (a1 < 0) = false := decide_eq_false c5
   clear c5
   by_cases c9 : a1 ≥ a0_0
   ·rw [if_pos c9] at H
    have c9b0 : decide (a0_0 ≤ a1) = true := decide_eq_true c9
    clear c9
    simp only [Option.some.injEq, Prod.mk.injEq] at H
    obtain ⟨rfl, rfl⟩ := H
    go_enter Try.func38, Try.ntmps38
    go_wp2_with (first | ((with_reducible refine gate_dst (N := 2) rfl ?_); refine box_event ?hg (N := 2) ?hd (cs := #[.int .i64 a0_0, .slice A0_1 l0_1.length c0_1]) (t := 45) ?hr ?_; (case hd => rfl); (case hg => rfl); (case hr => first | (go_simp; done) | (go_simp; rfl)); intro gb156 hg w10 hbox hb; have n0_ := Aside0.mk (below_step (by repeat (first | (with_reducible first | exact HB.out | apply below_alloc | apply pw_below_drewN | apply below_drew1) | exact HB.out)) hb); have n1_ := Aside0.mk (hbox); have n2_ := Aside0.mk ((by rw [hg]; exact (below_size (by repeat (first | (with_reducible first | exact HB.out | apply below_alloc | apply pw_below_drewN | apply below_drew1) | exact HB.out))) : w.heap.size ≤ gb156)); have n3_ := Aside0.mk ((by rw [hg]; exact (below_size (by repeat (first | (with_reducible first | exact HB.out | apply below_alloc | apply pw_below_drewN | apply below_drew1) | exact HB.out))) : w.heap.size ≤ gb156)); clear HB; have HB := n0_; have BK156 := n1_; have GW156 := n2_; have GE156 := n3_; clear n0_ n1_ n2_ n3_; clear hb hbox hg; have hcz11_0 : w10.cell? ⟨gb156, 0, none⟩ = some (.int .i64 a0_0) := (blk_cell BK156.out 0).trans rfl; have hcz11_1 : w10.cell? ⟨gb156, 1, none⟩ = some (.slice A0_1 l0_1.length c0_1) := (blk_cell BK156.out 1).trans rfl; have hfz11_0 := blk_frozen BK156.out 0; have hfz11_1 := blk_frozen BK156.out 1) | ((with_reducible refine gate_callee (f := 34) rfl ?_); refine goesL_ (some 8) rfl rfl Try.func34 (by kernel_rfl) rfl #[.agg #[.int .i64 a0_0, .slice A0_1 l0_1.length c0_1]] rfl (by (try simp only [List.map_toArray, List.map_cons, List.map_nil]); first | done | rfl | (simp only [List.length_drop, List.length_take]; rfl)) ?_; (with_reducible refine (bits_Check.calls a0_0 _ _ l0_1 true _ ?side1 ?side2 A3.out).mono ?_); (case side1 => repeat (first | exact (Kd.C_below HR0_1.out HB.out) | (with_reducible refine Kd.C_alloc ?_ _) | (with_reducible refine Kd.C_drewN ?_ _) | (with_reducible refine Kd.C_drew ?_))); (case side2 => exact HC0_1.out); rintro e w12 ⟨rfl, hb⟩; refine ⟨_, rfl, ?_⟩; have n0_ := Aside0.mk (blk_below (g := gb156) (o := .cells #[.int .i64 a0_0, .slice A0_1 l0_1.length c0_1] 45 (0, 0)) (by (with_reducible repeat (first | refine blk_drewN ?_ _ | refine blk_drew ?_ | refine blk_alloc ?_ _)); exact BK156.out) hb); have n1_ := Aside0.mk (below_step (by repeat (first | (with_reducible first | exact HB.out | apply below_alloc | apply pw_below_drewN | apply below_drew1 | refine below_set ?_ GE156.out) | exact HB.out)) hb); clear BK156; clear HB; have BK156 := n0_; have HB := n1_; clear n0_ n1_; (try clear hb); (try clear hb2); (try clear hk); (try clear hi); have hcz13_0 : w12.cell? ⟨gb156, 0, none⟩ = some (.int .i64 a0_0) := (blk_cell BK156.out 0).trans rfl; have hcz13_1 : w12.cell? ⟨gb156, 1, none⟩ = some (.slice A0_1 l0_1.length c0_1) := (blk_cell BK156.out 1).trans rfl; have hfz13_0 := blk_frozen BK156.out 0; have hfz13_1 := blk_frozen BK156.out 1))
    go_ret2
    exact ⟨by first | rfl | (simp [errW_none, errW_some] <;> rfl) | (simp [*, errW_none, errW_some] <;> rfl), by repeat (first | (with_reducible first | exact HB.out | apply below_alloc | apply pw_below_drewN | apply below_drew1 | refine below_set ?_ GE156.out) | exact HB.out)⟩
   ·rw [if_neg c9] at H
    have c9b0 : decide (a0_0 ≤ a1) = false := decide_eq_false c9
    clear c9
    obtain ⟨ji14, hji14⟩ : ∃ j_ : Int, (wrap64 (Int.tdiv a1 64)) = j_ := ⟨_, rfl⟩
    replace H : (if 0 ≤ (ji14) then (if (ji14) < (l0_1.length : Int) then (if 0 ≤ (Int.tmod a1 64) then (some (((Go.bits .and .u64 (shr .u64 (rd l0_1 (ji14)) (Int.tmod a1 64)) 1) == 1), 0)) else (none)) else (none)) else (none)) = some (r1, r2) := by first | (rw [hji14] at H; exact H) | (simp only [hji14] at H ⊢; exact H)
    (try rw [hji14] at A3)
    have hji14w : (IntKind.i64.wrap (Int.tdiv a1 64)) = ji14 := (i64_w _).trans hji14
    by_cases c15 : 0 ≤ (ji14)
    ·rw [if_pos c15] at H
     have c15b0 : decide (0 ≤ (ji14)) = true := decide_eq_true c15
     clear c15
     by_cases c16 : (ji14) < (l0_1.length : Int)
     ·rw [if_pos c16] at H
      have c16b0 : decide ((ji14) < (l0_1.length : Int)) = true := decide_eq_true c16
      clear c16
      obtain ⟨ji17, hji17⟩ : ∃ j_ : Int, (Int.tmod a1 64) = j_ := ⟨_, rfl⟩
      replace H : (if 0 ≤ (ji17) then (some (((Go.bits .and .u64 (shr .u64 (rd l0_1 (ji14)) (ji17)) 1) == 1), 0)) else (none)) = some (r1, r2) := by first | (rw [hji17] at H; exact H) | (simp only [hji17] at H ⊢; exact H)
      (try rw [hji17] at A3)
      by_cases c18 : 0 ≤ (ji17)
      ·rw [if_pos c18] at H
       have c18b0 := eq_true c18
       have c18b1 : decide (0 ≤ (ji17)) = true := decide_eq_true c18
       clear c18
       obtain ⟨ji19, hji19⟩ : ∃ j_ : Int, (shr .u64 (rd l0_1 (ji14)) (ji17)) = j_ := ⟨_, rfl⟩
       replace H : (some (((Go.bits .and .u64 (ji19) 1) == 1), 0)) = some (r1, r2) := by first | (rw [hji19] at H; exact H) | (simp only [hji19] at H ⊢; exact H)
       (try rw [hji19] at A3)
       have hji19_ : ((rd l0_1 (ji14)) / 2 ^ min (ji17).toNat 64) = ji19 := hji19
       have hji19z : (ji17) ≤ 64 → ((rd l0_1 (ji14)) / 2 ^ (ji17).toNat) = ji19 := shr_small hji19
       simp only [Option.some.injEq, Prod.mk.injEq] at H
       obtain ⟨rfl, rfl⟩ := H
       go_enter Try.func38, Try.ntmps38
       go_wp2_with (first | ((with_reducible refine gate_dst (N := 2) rfl ?_); refine box_event ?hg (N := 2) ?hd (cs := #[.int .i64 a0_0, .slice A0_1 l0_1.length c0_1]) (t := 45) ?hr ?_; (case hd => rfl); (case hg => rfl); (case hr => first | (go_simp; done) | (go_simp; rfl)); intro gb156 hg w20 hbox hb; have n0_ := Aside0.mk (below_step (by repeat (first | (with_reducible first | exact HB.out | apply below_alloc | apply pw_below_drewN | apply below_drew1) | exact HB.out)) hb); have n1_ := Aside0.mk (hbox); have n2_ := Aside0.mk ((by rw [hg]; exact (below_size (by repeat (first | (with_reducible first | exact HB.out | apply below_alloc | apply pw_below_drewN | apply below_drew1) | exact HB.out))) : w.heap.size ≤ gb156)); have n3_ := Aside0.mk ((by rw [hg]; exact (below_size (by repeat (first | (with_reducible first | exact HB.out | apply below_alloc | apply pw_below_drewN | apply below_drew1) | exact HB.out))) : w.heap.size ≤ gb156)); clear HB; have HB := n0_; have BK156 := n1_; have GW156 := n2_; have GE156 := n3_; clear n0_ n1_ n2_ n3_; clear hb hbox hg; have hcz21_0 : w20.cell? ⟨gb156, 0, none⟩ = some (.int .i64 a0_0) := (blk_cell BK156.out 0).trans rfl; have hcz21_1 : w20.cell? ⟨gb156, 1, none⟩ = some (.slice A0_1 l0_1.length c0_1) := (blk_cell BK156.out 1).trans rfl; have hfz21_0 := blk_frozen BK156.out 0; have hfz21_1 := blk_frozen BK156.out 1) | ((with_reducible refine gate_callee (f := 34) rfl ?_); refine goesL_ (some 8) rfl rfl Try.func34 (by kernel_rfl) rfl #[.agg #[.int .i64 a0_0, .slice A0_1 l0_1.length c0_1]] rfl (by (try simp only [List.map_toArray, List.map_cons, List.map_nil]); first | done | rfl | (simp only [List.length_drop, List.length_take]; rfl)) ?_; (with_reducible refine (bits_Check.calls a0_0 _ _ l0_1 true _ ?side1 ?side2 A3.out).mono ?_); (case side1 => repeat (first | exact (Kd.C_below HR0_1.out HB.out) | (with_reducible refine Kd.C_alloc ?_ _) | (with_reducible refine Kd.C_drewN ?_ _) | (with_reducible refine Kd.C_drew ?_))); (case side2 => exact HC0_1.out); rintro e w22 ⟨rfl, hb⟩; refine ⟨_, rfl, ?_⟩; have n0_ := Aside0.mk (blk_below (g := gb156) (o := .cells #[.int .i64 a0_0, .slice A0_1 l0_1.length c0_1] 45 (0, 0)) (by (with_reducible repeat (first | refine blk_drewN ?_ _ | refine blk_drew ?_ | refine blk_alloc ?_ _)); exact BK156.out) hb); have n1_ := Aside0.mk (below_step (by repeat (first | (with_reducible first | exact HB.out | apply below_alloc | apply pw_below_drewN | apply below_drew1 | refine below_set ?_ GE156.out) | exact HB.out)) hb); clear BK156; clear HB; have BK156 := n0_; have HB := n1_; clear n0_ n1_; (try clear hb); (try clear hb2); (try clear hk); (try clear hi); have hcz23_0 : w22.cell? ⟨gb156, 0, none⟩ = some (.int .i64 a0_0) := (blk_cell BK156.out 0).trans rfl; have hcz23_1 : w22.cell? ⟨gb156, 1, none⟩ = some (.slice A0_1 l0_1.length c0_1) := (blk_cell BK156.out 1).trans rfl; have hfz23_0 := blk_frozen BK156.out 0; have hfz23_1 := blk_frozen BK156.out 1; have p158 : 0 ≤ ((ji14) : Int) := of_decide_eq_true (by first | (with_reducible assumption) | assumption); have q158 : (ji14) < (l0_1.length : Int) := of_decide_eq_true (by first | (with_reducible assumption) | assumption); obtain ⟨ad158, e158, hx158_0⟩ := Kd.at_int HR0_1.out (ji14) p158 q158; cases e158; replace hx158_0 := (HB.out.cell (World.block_lt_of_cell? w _ hx158_0)).trans hx158_0; replace p158 := eq_true p158; replace q158 := eq_true q158))
       go_ret2
       exact ⟨by first | rfl | (simp [errW_none, errW_some] <;> rfl) | (simp only [← hji14, ← hji17, ← hji19]; first | rfl | (simp [errW_none, errW_some] <;> rfl)) | (simp [*, errW_none, errW_some] <;> rfl), by repeat (first | (with_reducible first | exact HB.out | apply below_alloc | apply pw_below_drewN | apply below_drew1 | refine below_set ?_ GE156.out) | exact HB.out)⟩
      ·rw [if_neg c18] at H
       exact absurd H (by simp)
     ·rw [if_neg c16] at H
      exact absurd H (by simp)
    ·rw [if_neg c15] at H
     exact absurd H (by simp)
 ·replace c4 := Bool.eq_false_iff.mpr c4
  subst c4
  have H1 : (some (false, 2)) = some (r1, r2) := by rw [if_neg (show ¬ (false = true) by decide)] at H; exact H
  clear H
  have H := H1
  clear H1
  simp only [Option.some.injEq, Prod.mk.injEq] at H
  obtain ⟨rfl, rfl⟩ := H
  go_enter Try.func38, Try.ntmps38
  go_wp2_with (first | ((with_reducible refine gate_dst (N := 2) rfl ?_); refine box_event ?hg (N := 2) ?hd (cs := #[.int .i64 a0_0, .slice A0_1 l0_1.length c0_1]) (t := 45) ?hr ?_; (case hd => rfl); (case hg => rfl); (case hr => first | (go_simp; done) | (go_simp; rfl)); intro gb156 hg w24 hbox hb; have n0_ := Aside0.mk (below_step (by repeat (first | (with_reducible first | exact HB.out | apply below_alloc | apply pw_below_drewN | apply below_drew1) | exact HB.out)) hb); have n1_ := Aside0.mk (hbox); have n2_ := Aside0.mk ((by rw [hg]; exact (below_size (by repeat (first | (with_reducible first | exact HB.out | apply below_alloc | apply pw_below_drewN | apply below_drew1) | exact HB.out))) : w.heap.size ≤ gb156)); have n3_ := Aside0.mk ((by rw [hg]; exact (below_size (by repeat (first | (with_reducible first | exact HB.out | apply below_alloc | apply pw_below_drewN | apply below_drew1) | exact HB.out))) : w.heap.size ≤ gb156)); clear HB; have HB := n0_; have BK156 := n1_; have GW156 := n2_; have GE156 := n3_; clear n0_ n1_ n2_ n3_; clear hb hbox hg; have hcz25_0 : w24.cell? ⟨gb156, 0, none⟩ = some (.int .i64 a0_0) := (blk_cell BK156.out 0).trans rfl; have hcz25_1 : w24.cell? ⟨gb156, 1, none⟩ = some (.slice A0_1 l0_1.length c0_1) := (blk_cell BK156.out 1).trans rfl; have hfz25_0 := blk_frozen BK156.out 0; have hfz25_1 := blk_frozen BK156.out 1) | ((with_reducible refine gate_callee (f := 34) rfl ?_); refine goesL_ (some 8) rfl rfl Try.func34 (by kernel_rfl) rfl #[.agg #[.int .i64 a0_0, .slice A0_1 l0_1.length c0_1]] rfl (by (try simp only [List.map_toArray, List.map_cons, List.map_nil]); first | done | rfl | (simp only [List.length_drop, List.length_take]; rfl)) ?_; (with_reducible refine (bits_Check.calls a0_0 _ _ l0_1 false _ ?side1 ?side2 A3.out).mono ?_); (case side1 => repeat (first | exact (Kd.C_below HR0_1.out HB.out) | (with_reducible refine Kd.C_alloc ?_ _) | (with_reducible refine Kd.C_drewN ?_ _) | (with_reducible refine Kd.C_drew ?_))); (case side2 => exact HC0_1.out); rintro e w26 ⟨rfl, hb⟩; refine ⟨_, rfl, ?_⟩; have n0_ := Aside0.mk (blk_below (g := gb156) (o := .cells #[.int .i64 a0_0, .slice A0_1 l0_1.length c0_1] 45 (0, 0)) (by (with_reducible repeat (first | refine blk_drewN ?_ _ | refine blk_drew ?_ | refine blk_alloc ?_ _)); exact BK156.out) hb); have n1_ := Aside0.mk (below_step (by repeat (first | (with_reducible first | exact HB.out | apply below_alloc | apply pw_below_drewN | apply below_drew1 | refine below_set ?_ GE156.out) | exact HB.out)) hb); clear BK156; clear HB; have BK156 := n0_; have HB := n1_; clear n0_ n1_; (try clear hb); (try clear hb2); (try clear hk); (try clear hi)))
  go_ret2
  exact ⟨by first | rfl | (simp [errW_none, errW_some] <;> rfl) | (simp [*, errW_none, errW_some] <;> rfl), by repeat (first | (with_reducible first | exact HB.out | apply below_alloc | apply pw_below_drewN | apply below_drew1 | refine below_set ?_ GE156.out) | exact HB.out)⟩

-- with calls, making: yes
/-! ### huff_Next: function 18, by hand -/
def beginsB (j v : Int) (c : S33) : Bool := decide (j < c.f0) && (shr .u64 c.f1 (c.f0 - j) == v)
theorem mixedN : Try.prog.follows Departure.mixedOrders = true := by kernel_rfl
theorem egN : ∀ args w, (callFunc 35 args).run Try.prog w = .ok (.enter 35 args) w := Go.Proofs.enters_of Try.func35 (by kernel_rfl) rfl
set_option maxHeartbeats 4000000 in
set_option maxRecDepth 20000 in
theorem begins_any (bk : Nat) (j v : Int) (c : S33) (W : World) (h0 : W.cell? ⟨bk, 0, none⟩ = some (.int .i64 j)) (h1 : W.cell? ⟨bk, 1, none⟩ = some (.int .u64 v)) (hj : 0 ≤ j) (hc : c.f0 ≤ 40) :
  Calls Try.prog 35 #[.agg #[.int .i64 c.f0, .int .u64 c.f1], .pointer (some ⟨bk, 0, none⟩)] W fun e w' => e = .returned (.bool (beginsB j v c)) ∧ Below W.heap.size W w' := by
 have mixed := mixedN
 unfold beginsB
 generalize c.f0 = x at *
 generalize c.f1 = y at *
 by_cases hx : j < x
 ·have hd : decide (j < x) = true := decide_eq_true hx
  have z1 : IntKind.i64.wrap (x - j) = x - j := by rw [IntKind.wrap_i64]; omega
  have z2 : 0 ≤ x - j := by omega
  have z3 : x - j ≤ 64 := by omega
  have hs : shr .u64 y (x - j) = y / 2 ^ (x - j).toNat := by
   unfold shr
   rw [Nat.min_eq_left (by show _ ≤ 64; omega)]
  rw [hs, hd]
  have HB := Lib.hid ((Below.refl W.heap.size W).alloc (Nat.le_refl _) (Obj.cells #[.int .i64 x, .int .u64 y] 33 (0, 0)))
  have g0 := (HB.out.cell (World.block_lt_of_cell? W _ h0)).trans h0
  have g1 := (HB.out.cell (World.block_lt_of_cell? W _ h1)).trans h1
  generalize hq : y / 2 ^ (x - j).toNat = q at *
  go_enter Try.func35, Try.ntmps35
  go_wp2
  go_quiet (fail)
  go_wp2
  go_ret
  exact ⟨by simp, pw_below_drewN HB.out _⟩
 ·have hd : decide (j < x) = false := decide_eq_false hx
  rw [hd]
  have HB := Lib.hid ((Below.refl W.heap.size W).alloc (Nat.le_refl _) (Obj.cells #[.int .i64 x, .int .u64 y] 33 (0, 0)))
  have g0 := (HB.out.cell (World.block_lt_of_cell? W _ h0)).trans h0
  go_enter Try.func35, Try.ntmps35
  go_wp2
  go_quiet (fail)
  go_wp2
  go_ret
  exact ⟨by simp, pw_below_drewN HB.out _⟩

theorem at_codes {W w : World} {A0 : Option Addr} {l : List S33} (hr : Kd.C k33 w A0 l.length l) (hb : Below w.heap.size w W) (k : Nat) (hk : k < l.length) :
  ∃ ad, A0 = some ad ∧ W.cell? (ad.add (k * 2)) = some (.int .i64 (rd_T33 l (k : Int)).f0) ∧ W.cell? ⟨(ad.add (k * 2)).block, (ad.add (k * 2)).off + 1, none⟩ = some (.int .u64 (rd_T33 l (k : Int)).f1) := by
 obtain ⟨ad, e, h1, h2⟩ := at_T33 (Kd.C_below hr hb) (k : Int) (by omega) (by omega)
 rw [Int.toNat_natCast] at h1 h2
 exact ⟨ad, e, h1, h2⟩
set_option maxHeartbeats 4000000 in
set_option maxRecDepth 20000 in
theorem index_any (bk : Nat) (j v : Int) (A0 : Option Addr) (c0 : Nat) (l : List S33) (w : World) (hr : Kd.C k33 w A0 l.length l) (hl : l.length ≤ 1000000) (hcs : ∀ c ∈ l, c.f0 ≤ 40) (h0 : w.cell? ⟨bk, 0, none⟩ = some (.int .i64 j)) (h1 : w.cell? ⟨bk, 1, none⟩ = some (.int .u64 v)) (hj : 0 ≤ j) :
  Calls Try.prog 49 #[.slice A0 l.length c0, .func (.func 35) #[] #[.pointer (some ⟨bk, 0, none⟩)]] w fun e w' => (∃ r : Int, e = .returned (.int .i64 r) ∧ decide (0 ≤ r) = l.any (beginsB j v)) ∧ Below w.heap.size w w' := by
 have eg := egN
 have HR := Aside0.mk hr; have HCS := Aside0.mk hcs; have H0 := Aside0.mk h0; have H1 := Aside0.mk h1
 clear hr hcs h0 h1
 go_enter Try.func49, Try.ntmps49
 go_wp2
 go_loopg [5, 8] l.length (fun gk s5 s8 wr => ∃ k : Nat, s8 = .int .i64 k ∧ k ≤ l.length ∧ l.length - k ≤ gk ∧ Aside0 (Below w.heap.size w wr) ∧ Aside0 (∀ i, i < k → beginsB j v (rd_T33 l (i : Int)) = false))
 case atStart => exact ⟨0, rfl, Nat.zero_le _, by omega, ⟨Below.refl _ _⟩, ⟨fun i hi => absurd hi (Nat.not_lt_zero _)⟩⟩
 case round =>
  obtain ⟨k, rfl, hk, hgk, HB, HN⟩ := hrel
  by_cases hlt : k < l.length
  ·have hlz : (k : Int) < (l.length : Int) := by omega
   obtain ⟨ad, rfl, hx, hy⟩ := at_codes HR.out HB.out k hlt
   have hmem : rd_T33 l (k : Int) ∈ l := by
    unfold rd_T33
    rw [Int.toNat_natCast, List.getD_eq_getElem?_getD, List.getElem?_eq_getElem hlt]
    exact List.getElem_mem _
   have hc := begins_any bk j v (rd_T33 l (k : Int)) wr ((HB.out.cell (World.block_lt_of_cell? w _ H0.out)).trans H0.out) ((HB.out.cell (World.block_lt_of_cell? w _ H1.out)).trans H1.out) hj (HCS.out _ hmem)
   have HM := Aside0.mk hmem
   have HS := Aside0.mk hlt
   clear hmem
   cases hq : beginsB j v (rd_T33 l (k : Int)) with
   | true =>
    rw [hq] at hc
    have HQ := Aside0.mk hq
    clear hq
    generalize rd_T33 l (k : Int) = cc at *
    obtain ⟨x, y⟩ := cc
    simp only at hx hy hc
    go_wp2_with fail
    refine hc.mono ?_
    rintro e w' ⟨rfl, hb⟩
    have HB2 := Aside0.mk (HB.out.trans (hb.mono HB.out.size))
    clear hb hc HB
    go_wp2
    go_ret
    exact ⟨⟨k, rfl, by rw [List.any_eq_true.2 ⟨_, HM.out, HQ.out⟩]; exact decide_eq_true (by omega)⟩, HB2.out⟩
   | false =>
    rw [hq] at hc
    have HQ := Aside0.mk hq
    clear hq
    have HN2 : Aside0 (∀ i, i < k + 1 → beginsB j v (rd_T33 l (i : Int)) = false) := ⟨fun i hi => by
     by_cases e : i = k
     ·subst e; exact HQ.out
     ·exact HN.out i (by omega)⟩
    clear HQ HN
    generalize rd_T33 l (k : Int) = cc at *
    obtain ⟨x, y⟩ := cc
    simp only at hx hy hc
    go_wp2_with fail
    refine hc.mono ?_
    rintro e w' ⟨rfl, hb⟩
    have HB2 := Aside0.mk (HB.out.trans (hb.mono HB.out.size))
    clear hb hc HB
    go_wp2
    go_roundg (l.length - (k + 1))
    case measure => omega
    case rel => exact ⟨k + 1, by go_num, by omega, by omega, HB2, HN2⟩
  ·obtain rfl : k = l.length := by omega
   have hlz : ¬ (l.length : Int) < (l.length : Int) := by omega
   go_wp2
   go_ret
   refine ⟨⟨-1, rfl, ?_⟩, HB.out⟩
   have : l.any (beginsB j v) = false := by
    rw [List.any_eq_false]
    intro c hc
    obtain ⟨i, hi, rfl⟩ := List.mem_iff_getElem.1 hc
    have := HN.out i hi
    unfold rd_T33 at this
    rw [Int.toNat_natCast, List.getD_eq_getElem?_getD, List.getElem?_eq_getElem hi] at this
    simpa using this
   rw [this]
   rfl
set_option maxHeartbeats 4000000 in
theorem contains_any (bk : Nat) (j v : Int) (A0 : Option Addr) (c0 : Nat) (l : List S33) (w : World) (hr : Kd.C k33 w A0 l.length l) (hl : l.length ≤ 1000000) (hcs : ∀ c ∈ l, c.f0 ≤ 40) (h0 : w.cell? ⟨bk, 0, none⟩ = some (.int .i64 j)) (h1 : w.cell? ⟨bk, 1, none⟩ = some (.int .u64 v)) (hj : 0 ≤ j) :
  Calls Try.prog 37 #[.slice A0 l.length c0, .func (.func 35) #[] #[.pointer (some ⟨bk, 0, none⟩)]] w fun e w' => e = .returned (.bool (l.any (beginsB j v))) ∧ Below w.heap.size w w' := by
 have hc := index_any bk j v A0 c0 l w hr hl hcs h0 h1 hj
 generalize l.any (beginsB j v) = b at *
 clear hr hcs h0 h1
 go_enter Try.func37, Try.ntmps37
 go_wp2_with fail
 refine hc.mono ?_
 rintro e w' ⟨⟨r, rfl, hr⟩, hb⟩
 have HB := Aside0.mk hb; have HR := Aside0.mk hr
 clear hb hr hc
 go_wp2
 go_ret
 exact ⟨by rw [← HR.out]; rfl, HB.out⟩
/-! ### Next itself -/
def nextGo (codes : List S33) (n : Int) (W : List Int) (at_ : Int) : Nat → Int → Int → Option (Int × Int × Int)
 | 0, _, _ => none
 | f + 1, j, v => (api_Code_36.f (codes.length + 1) codes j v).bind fun c => if 0 ≤ c ∧ 0 < j then some (c, at_ + j, 0) else if codes.any (beginsB j v) = true then
   (bits_Get.f n W (at_ + j)).bind fun g => if g.2 = 0 then nextGo codes n W at_ f (j + 1) (if g.1 = true then IntKind.u64.wrap (IntKind.u64.wrap (v * 2) + 1) else IntKind.u64.wrap (v * 2)) else some (0, 0, 160)
  else some (0, 0, 161)
def huff_Next.f (codes : List S33) (n : Int) (W : List Int) (at_ : Int) : Option (Int × Int × Int) :=
 if codes.length ≤ 1000000 then (huff_right.f (2 * codes.length + 1000) codes).bind fun t => if t = true then (bits_Check.f n W).bind fun u => if u = true then (if at_ < 0 then some (0, 0, 3) else if at_ > n then some (0, 0, 3) else if n ≤ 1048576 ∧ (∀ c ∈ codes, c.f0 ≤ 40) then nextGo codes n W at_ 64 0 0 else none) else some (0, 0, 2)
  else some (0, 0, 2) else none
theorem wp_scope_again {P : Program} {a : Act} {w : World} {Q : Exit → Act → World → Prop} {c rest : Code} (l : Nat) (J : Act → World → Prop) (μ : Act → World → Nat) (hf : findLabel c l = some (Code.skip.seq rest))
  (pass : ∀ a w, J a w → rest.wp P (Exit.jump l (fun a' w' => J a' w' ∧ μ a' w' < μ a w) Q) a w)
  (first : Hid (∀ a w, J a w → rest.wp P (Exit.jump l J Q) a w) → c.wp P (Exit.jump l J Q) a w) : (Code.scope c).wp P Q a w :=
 wp_scope_jumps l J μ hf (first (Lib.hid fun a w h => Code.wp_mono (fun e a' w' he => by cases e <;> first | exact ⟨he.1, he.2.1⟩ | exact he) (pass a w h))) fun a w h => wp_seq (wp_skip (pass a w h))
def NFrame (A0 : Option Addr) (N c0 : Nat) (n : Int) (A1 : Option Addr) (M c1 : Nat) (at_ : Int) (B bk : Nat) (a : Act) : Prop := ∃ u : Nat → Value, a = { tmps := #[.slice A0 N c0, .agg #[.int .i64 n, .slice A1 M c1], .int .i64 at_, u 3, .pointer (some ⟨B, 0, none⟩), u 5, .int .i64 0, .int .i64 0, .int .i64 0, .pointer (some ⟨bk, 0, none⟩), u 10, u 11, u 12, u 13, u 14, u 15, u 16, u 17, u 18, u 19, u 20, u 21, u 22, u 23, u 24, u 25, u 26, u 27, u 28, u 29, u 30, u 31, u 32, u 33, u 34, u 35, u 36, u 37, u 38, u 39, u 40, u 41, u 42, u 43, u 44, u 45, u 46, u 47, u 48, u 49, u 50, u 51, u 52, u 53, u 54, u 55, u 56, u 57, u 58, u 59, u 60, u 61, u 62, u 63, u 64, u 65, u 66, u 67, u 68, u 69, u 70, u 71, u 72, u 73, u 74, u 75, u 76], defers := [] }
noncomputable def nMu (a : Act) (w : World) : Nat := match a.tmps.getD 9 undef with
 | .pointer (some ad) => match w.cell? ad with
  | some (.int _ j) => 64 - j.toNat
  | _ => 0
 | _ => 0
theorem nMu_of {a : Act} {W : World} {bk : Nat} {j : Int} (ha : a.tmps.getD 9 undef = .pointer (some ⟨bk, 0, none⟩)) (hc : W.cell? ⟨bk, 0, none⟩ = some (.int .i64 j)) : nMu a W = 64 - j.toNat := by
 unfold nMu
 simp only [ha, hc]
def NJ (w : World) (A0 : Option Addr) (c0 : Nat) (codes : List S33) (n : Int) (A1 : Option Addr) (c1 : Nat) (W : List Int) (at_ : Int) (r : Int × Int × Int) (a : Act) (W1 : World) : Prop :=
 ∃ (bk f : Nat) (j v : Int), NFrame A0 codes.length c0 n A1 W.length c1 at_ w.heap.size bk a ∧ w.heap.size < bk ∧ 0 ≤ j ∧ (f : Int) + j = 64 ∧ Aside0 (Below w.heap.size w W1) ∧ Aside0 (W1.heap[w.heap.size]? = some (.cells #[.int .i64 n, .slice A1 W.length c1] 45 (0, 0))) ∧ Aside0 (W1.heap[bk]? = some (.cells #[.int .i64 j, .int .u64 v] 33 (0, 0))) ∧ Aside0 (nextGo codes n W at_ f j v = some r)
def Nexted (r : Int × Int × Int) (w : World) (e : Ending) (w' : World) : Prop := e = .returned (.tuple #[.int .i64 r.1, .int .i64 r.2.1, .int .i64 r.2.2]) ∧ Below w.heap.size w w'
set_option maxHeartbeats 8000000 in
set_option maxRecDepth 100000 in
theorem next_good (A0 : Option Addr) (c0 : Nat) (codes : List S33) (n : Int) (A1 : Option Addr) (c1 : Nat) (W : List Int) (at_ : Int) (r : Int × Int × Int) (w : World) (hr0 : Kd.C k33 w A0 codes.length codes) (hc0 : codes.length ≤ c0) (hr1 : Kd.C (Kd.int .u64) w A1 W.length W) (hc1 : W.length ≤ c1)
  (hl : codes.length ≤ 1000000) (hright : huff_right.f (2 * codes.length + 1000) codes = some true) (hcheck : bits_Check.f n W = some true) (ha0 : 0 ≤ at_) (han : at_ ≤ n) (hn : n ≤ 1048576) (hcs : ∀ c ∈ codes, c.f0 ≤ 40) (hgo : nextGo codes n W at_ 64 0 0 = some r) :
  Calls Try.prog 18 #[.slice A0 codes.length c0, .agg #[.int .i64 n, .slice A1 W.length c1], .int .i64 at_] w (Nexted r w) := by
 have mixed := mixedN
 obtain ⟨ob, hob⟩ : ∃ o, o = Obj.cells #[.int .i64 n, .slice A1 W.length c1] 45 (0, 0) := ⟨_, rfl⟩
 have HB := Aside0.mk ((Below.refl w.heap.size w).alloc (Nat.le_refl _) ob)
 have HX := Aside0.mk (heap_alloc_new w ob)
 rw [hob] at HB HX
 clear hob ob
 have hright' := huff_right.calls (2 * codes.length + 1000) A0 c0 codes true _ (Kd.C_below hr0 HB.out) hc0 hright
 have HR0 := Aside0.mk hr0; have HR1 := Aside0.mk hr1; have HCS := Aside0.mk hcs; have HGO := Aside0.mk hgo
 have HCK := fun W1 hb => bits_Check.calls n A1 c1 W true W1 (Kd.C_below hr1 hb) hc1 hcheck
 have HCKH := Aside0.mk HCK
 clear hr0 hr1 hcs hgo HCK hright hcheck
 have d1 : decide (at_ < 0) = false := decide_eq_false (by omega)
 have d2 : decide (n < at_) = false := decide_eq_false (by omega)
 go_enter Try.func18, Try.ntmps18
 go_wp2
 refine wp_scope_again 0 (NJ w A0 c0 codes n A1 c1 W at_ r) nMu rfl ?pass ?first
 case first =>
  intro hp
  go_wp2_with fail
  refine hright'.mono ?_
  rintro e w1 ⟨rfl, hb1⟩
  have HB1 := Aside0.mk (HB.out.trans (hb1.mono HB.out.size))
  have HX1 := Aside0.mk ((hb1.block _ (blk_lt HX.out)).trans HX.out)
  have x1 := (blk_cell HX1.out 0).trans rfl
  have x2 := (blk_cell HX1.out 1).trans rfl
  clear hb1 hright'
  go_wp2_with fail
  refine (HCKH.out _ HB1.out).mono ?_
  rintro e w2 ⟨rfl, hb2⟩
  have HB2 := Aside0.mk (HB1.out.trans (hb2.mono HB1.out.size))
  have HX2 := Aside0.mk ((hb2.block _ (blk_lt HX1.out)).trans HX1.out)
  clear hb2 x1 x2
  have x1 : w2.cell? ⟨w.heap.size, 0, none⟩ = some (.int .i64 n) := (blk_cell HX2.out 0).trans rfl
  have x2 : w2.cell? ⟨w.heap.size, 1, none⟩ = some (.slice A1 W.length c1) := (blk_cell HX2.out 1).trans rfl
  go_wp2
  go_step3
  rename_i HK1
  refine HK1 _ _ ?_
  refine hp.out _ _ ?_
  refine ⟨w2.heap.size, 64, 0, 0, ⟨fun k => (#[undef, undef, undef, _, undef, _, undef, undef, undef, undef, _, _, _, _, _, _, _, _, _, _, _, _, _, _, _, _, _, _, _, _, _, _, _, _, _, _, _, _, _, _, _, _, _, _, _, _, _, _, _, _, _, _, _, _, _, _, _, _, _, _, _, _, _, _, _, _, _, _, _, _, _, _, _, _, _, _, _] : Array Value).getD k undef, rfl⟩, blk_lt HX2.out, Int.le_refl _, by omega, ⟨HB2.out.trans (((Below.refl _ _).alloc (Nat.le_refl _) _).mono HB2.out.size)⟩, ⟨blk_alloc HX2.out _⟩, ⟨heap_alloc_new w2 _⟩, HGO⟩
 case pass =>
  clear HB HX hright' HGO
  rintro a W1 ⟨bk, f, j, v, ⟨u, rfl⟩, hbk, hj, hfj, HBW, HXB, HK, HG⟩
  cases f with
  | zero => exact absurd HG.out (by simp [nextGo])
  | succ f =>
   have hg := HG.out
   clear HG
   unfold nextGo at hg
   obtain ⟨c, hc, hg⟩ := Option.bind_eq_some_iff.1 hg
   have hix := api_Code_36.calls (codes.length + 1) A0 c0 codes j v c W1 (Kd.C_below HR0.out HBW.out) hc0 hc
   have k0 : W1.cell? ⟨bk, 0, none⟩ = some (.int .i64 j) := (blk_cell HK.out 0).trans rfl
   have k1 : W1.cell? ⟨bk, 1, none⟩ = some (.int .u64 v) := (blk_cell HK.out 1).trans rfl
   have hMu : ∀ u' : Array Value, u'.getD 9 undef = .pointer (some ⟨bk, 0, none⟩) → nMu { tmps := u', defers := [] } W1 = 64 - j.toNat := fun u' hu => nMu_of hu k0
   have HMU := Aside0.mk hMu
   clear hc hMu
   go_wp2_with fail
   refine hix.mono ?_
   rintro e w2 ⟨rfl, hb2⟩
   have HB2 := Aside0.mk (HBW.out.trans (hb2.mono HBW.out.size))
   have HX2 := Aside0.mk ((hb2.block _ (blk_lt HXB.out)).trans HXB.out)
   have HK2 := Aside0.mk ((hb2.block _ (blk_lt HK.out)).trans HK.out)
   clear hb2 hix k0 k1 HBW HXB HK
   have k0 : w2.cell? ⟨bk, 0, none⟩ = some (.int .i64 j) := (blk_cell HK2.out 0).trans rfl
   have k1 : w2.cell? ⟨bk, 1, none⟩ = some (.int .u64 v) := (blk_cell HK2.out 1).trans rfl
   have x1 : w2.cell? ⟨w.heap.size, 0, none⟩ = some (.int .i64 n) := (blk_cell HX2.out 0).trans rfl
   have x2 : w2.cell? ⟨w.heap.size, 1, none⟩ = some (.slice A1 W.length c1) := (blk_cell HX2.out 1).trans rfl
   have f0 := blk_frozen HK2.out 0
   have f1 := blk_frozen HK2.out 1
   have zz : IntKind.i64.wrap (at_ + j) = at_ + j := by rw [IntKind.wrap_i64]; omega
   have HZZ := Aside0.mk zz
   clear zz
   by_cases h1 : 0 ≤ c ∧ 0 < j
   ·rw [if_pos h1] at hg
    obtain rfl := Option.some.inj hg
    obtain ⟨h1a, h1b⟩ := h1
    have g1 : decide (0 ≤ c) = true := decide_eq_true h1a
    have g2 : decide (0 < j) = true := decide_eq_true h1b
    have zz := HZZ.out
    go_wp2
    go_quiet (fail)
    go_wp2
    simp only [Exit.jump]
    go_ret3
    exact ⟨rfl, pw_below_drewN HB2.out _⟩
   ·rw [if_neg h1] at hg
    have h2 : (decide (0 ≤ c) && decide (0 < j)) = false := by
     rw [Bool.and_eq_false_iff]
     by_cases q : 0 ≤ c
     ·exact .inr (decide_eq_false fun q2 => h1 ⟨q, q2⟩)
     ·exact .inl (decide_eq_false q)
    have hcon := contains_any bk j v A0 c0 codes w2 (Kd.C_below HR0.out HB2.out) hl HCS.out k0 k1 hj
    have HG := Aside0.mk hg
    have H1 := Aside0.mk h1
    clear hg h1 h2
    have HCN := Aside0.mk hcon
    clear hcon
    have key : (decide (0 ≤ c) = true ∧ decide (0 < j) = false) ∨ decide (0 ≤ c) = false := by
     by_cases hcz : 0 ≤ c
     ·exact .inl ⟨decide_eq_true hcz, decide_eq_false fun q => H1.out ⟨hcz, q⟩⟩
     ·exact .inr (decide_eq_false hcz)
    clear H1
    rcases key with ⟨g1, g2⟩ | g1
    all_goals
     cases hany : codes.any (beginsB j v) with
     | false =>
      have hg := HG.out
      have hcon := HCN.out
      rw [hany] at hg hcon
      rw [if_neg (by decide)] at hg
      obtain rfl := Option.some.inj hg
      clear hany hg HG
      go_wp2_with fail
      refine hcon.mono ?_
      rintro e w3 ⟨rfl, hb3⟩
      have HB3 := Aside0.mk (HB2.out.trans (hb3.mono HB2.out.size))
      clear hb3 hcon
      go_wp2
      simp only [Exit.jump]
      go_ret3
      exact ⟨rfl, HB3.out⟩
     | true =>
      have hg := HG.out
      have hcon := HCN.out
      rw [hany] at hg hcon
      rw [if_pos rfl] at hg
      obtain ⟨g, hgv, hg⟩ := Option.bind_eq_some_iff.1 hg
      obtain ⟨bit, er⟩ := g
      have HGV := Aside0.mk hgv; have HG2 := Aside0.mk hg
      clear hany hg HG hgv
      go_wp2_with fail
      refine hcon.mono ?_
      rintro e w3 ⟨rfl, hb3⟩
      have HB3 := Aside0.mk (HB2.out.trans (hb3.mono HB2.out.size))
      have HX3 := Aside0.mk ((hb3.block _ (blk_lt HX2.out)).trans HX2.out)
      have HK3 := Aside0.mk ((hb3.block _ (blk_lt HK2.out)).trans HK2.out)
      clear hb3 hcon k0 k1 x1 x2 f0 f1 HB2 HX2 HK2 HCN
      have k0 : w3.cell? ⟨bk, 0, none⟩ = some (.int .i64 j) := (blk_cell HK3.out 0).trans rfl
      have x1 : w3.cell? ⟨w.heap.size, 0, none⟩ = some (.int .i64 n) := (blk_cell HX3.out 0).trans rfl
      have x2 : w3.cell? ⟨w.heap.size, 1, none⟩ = some (.slice A1 W.length c1) := (blk_cell HX3.out 1).trans rfl
      have hget := bits_Get.calls n A1 c1 W (at_ + j) bit er w3 (Kd.C_below HR1.out HB3.out) hc1 HGV.out
      have zz := HZZ.out
      go_wp2_with fail
      refine hget.mono ?_
      rintro e w4 ⟨rfl, hb4⟩
      have HB4 := Aside0.mk (HB3.out.trans (hb4.mono HB3.out.size))
      have HX4 := Aside0.mk ((hb4.block _ (blk_lt HX3.out)).trans HX3.out)
      have HK4 := Aside0.mk ((hb4.block _ (blk_lt HK3.out)).trans HK3.out)
      clear hb4 hget k0 x1 x2 HB3 HX3 HK3 zz HGV
      by_cases he : er = 0
      ·subst he
       have hg := HG2.out
       rw [if_pos rfl] at hg
       have HG3 := Aside0.mk hg
       clear hg HG2
       have k0 : w4.cell? ⟨bk, 0, none⟩ = some (.int .i64 j) := (blk_cell HK4.out 0).trans rfl
       have k1 : w4.cell? ⟨bk, 1, none⟩ = some (.int .u64 v) := (blk_cell HK4.out 1).trans rfl
       have f0 := blk_frozen HK4.out 0
       have f1 := blk_frozen HK4.out 1
       have zj : IntKind.i64.wrap (j + 1) = j + 1 := by rw [IntKind.wrap_i64]; omega
       obtain ⟨v2, hv2⟩ : ∃ y, IntKind.u64.wrap (v * 2) = y := ⟨_, rfl⟩
       rw [hv2] at HG3
       have hne : w.heap.size ≠ bk := by omega
       have hle : w.heap.size ≤ bk := by omega
       have HB5 := Aside0.mk (below_set (j := 1) (v := .int .u64 v2) (below_set (j := 0) (v := .int .i64 (j + 1)) HB4.out hle) hle)
       have HK5 := Aside0.mk (Go.Proofs.Ytceompmfmceicaa.Row.blk_set (Go.Proofs.Ytceompmfmceicaa.Row.blk_set HK4.out 0 (.int .i64 (j + 1))) 1 (.int .u64 v2))
       have HX5 := Aside0.mk (Go.Proofs.Ytceompmfmceicaa.Row.set_far _ ⟨bk, 1, none⟩ (.int .u64 v2) _ hne (Go.Proofs.Ytceompmfmceicaa.Row.set_far w4 ⟨bk, 0, none⟩ (.int .i64 (j + 1)) _ hne HX4.out))
       clear HX4 HB4
       cases bit with
       | true =>
        rw [if_pos rfl] at HG3
        obtain ⟨v3, hv3⟩ : ∃ y, IntKind.u64.wrap (v2 + 1) = y := ⟨_, rfl⟩
        rw [hv3] at HG3
        have m0 := blk_frozen HK5.out 1
        have m1 : ((w4.setCell ⟨bk, 0, none⟩ (.int .i64 (j + 1))).setCell ⟨bk, 1, none⟩ (.int .u64 v2)).cell? ⟨bk, 1, none⟩ = some (.int .u64 v2) := (blk_cell HK5.out 1).trans rfl
        replace HB5 := Aside0.mk (below_set (j := 1) (v := .int .u64 v3) HB5.out hle)
        replace HK5 := Aside0.mk (Go.Proofs.Ytceompmfmceicaa.Row.blk_set HK5.out 1 (.int .u64 v3))
        replace HX5 := Aside0.mk (Go.Proofs.Ytceompmfmceicaa.Row.set_far _ ⟨bk, 1, none⟩ (.int .u64 v3) _ hne HX5.out)
        go_wp2
        go_step3
        show 0 = 0 ∧ (NJ w A0 c0 codes n A1 c1 W at_ r _ _ ∧ nMu _ _ < nMu _ _)
        refine ⟨rfl, ⟨bk, f, j + 1, v3, ⟨fun k => (#[undef, undef, undef, _, undef, _, undef, undef, undef, undef, _, _, _, _, _, _, _, _, _, _, _, _, _, _, _, _, _, _, _, _, _, _, _, _, _, _, _, _, _, _, _, _, _, _, _, _, _, _, _, _, _, _, _, _, _, _, _, _, _, _, _, _, _, _, _, _, _, _, _, _, _, _, _, _, _, _, _] : Array Value).getD k undef, rfl⟩, hbk, by omega, by omega, HB5, HX5, HK5, HG3⟩, ?_⟩
        rw [nMu_of (bk := bk) (j := j + 1) rfl ((blk_cell HK5.out 0).trans rfl), HMU.out _ rfl]
        omega
       | false =>
        rw [if_neg (by decide)] at HG3
        go_wp2
        go_step3
        show 0 = 0 ∧ (NJ w A0 c0 codes n A1 c1 W at_ r _ _ ∧ nMu _ _ < nMu _ _)
        refine ⟨rfl, ⟨bk, f, j + 1, v2, ⟨fun k => (#[undef, undef, undef, _, undef, _, undef, undef, undef, undef, _, _, _, _, _, _, _, _, _, _, _, _, _, _, _, _, _, _, _, _, _, _, _, _, _, _, _, _, _, _, _, _, _, _, _, _, _, _, _, _, _, _, _, _, _, _, _, _, _, _, _, _, _, _, _, _, _, _, _, _, _, _, _, _, _, _, _] : Array Value).getD k undef, rfl⟩, hbk, by omega, by omega, HB5, HX5, HK5, HG3⟩, ?_⟩
        rw [nMu_of (bk := bk) (j := j + 1) rfl ((blk_cell HK5.out 0).trans rfl), HMU.out _ rfl]
        omega
      ·have hez : (er != 0) = true := bne_iff_ne.2 he
       have hg := HG2.out
       rw [if_neg he] at hg
       obtain rfl := Option.some.inj hg
       clear hg HG2 he
       go_wp2
       simp only [Exit.jump]
       go_ret3
       exact ⟨rfl, HB4.out⟩
set_option maxHeartbeats 8000000 in
set_option maxRecDepth 100000 in
theorem next_bad (A0 : Option Addr) (c0 : Nat) (codes : List S33) (n : Int) (A1 : Option Addr) (c1 : Nat) (W : List Int) (at_ : Int) (w : World) (hr0 : Kd.C k33 w A0 codes.length codes) (hc0 : codes.length ≤ c0) (hright : huff_right.f (2 * codes.length + 1000) codes = some false) :
  Calls Try.prog 18 #[.slice A0 codes.length c0, .agg #[.int .i64 n, .slice A1 W.length c1], .int .i64 at_] w (Nexted (0, 0, 2) w) := by
 obtain ⟨ob, hob⟩ : ∃ o, o = Obj.cells #[.int .i64 n, .slice A1 W.length c1] 45 (0, 0) := ⟨_, rfl⟩
 have HB := Aside0.mk ((Below.refl w.heap.size w).alloc (Nat.le_refl _) ob)
 rw [hob] at HB
 clear hob ob
 have hright' := huff_right.calls (2 * codes.length + 1000) A0 c0 codes false _ (Kd.C_below hr0 HB.out) hc0 hright
 go_enter Try.func18, Try.ntmps18
 go_wp2
 go_step3
 go_wp2_with fail
 refine hright'.mono ?_
 rintro e w1 ⟨rfl, hb1⟩
 have HB1 := Aside0.mk (HB.out.trans (hb1.mono HB.out.size))
 go_wp2
 rw [Exit.noGoto_ret]
 go_ret3
 exact ⟨rfl, HB1.out⟩
set_option maxHeartbeats 8000000 in
set_option maxRecDepth 100000 in
theorem next_bad2 (A0 : Option Addr) (c0 : Nat) (codes : List S33) (n : Int) (A1 : Option Addr) (c1 : Nat) (W : List Int) (at_ : Int) (w : World) (hr0 : Kd.C k33 w A0 codes.length codes) (hc0 : codes.length ≤ c0) (hr1 : Kd.C (Kd.int .u64) w A1 W.length W) (hc1 : W.length ≤ c1) (hright : huff_right.f (2 * codes.length + 1000) codes = some true)
  (u : Bool) (hcheck : bits_Check.f n W = some u) (hbad : u = false ∨ at_ < 0 ∨ n < at_) :
  Calls Try.prog 18 #[.slice A0 codes.length c0, .agg #[.int .i64 n, .slice A1 W.length c1], .int .i64 at_] w (Nexted (0, 0, if u = true then 3 else 2) w) := by
 obtain ⟨ob, hob⟩ : ∃ o, o = Obj.cells #[.int .i64 n, .slice A1 W.length c1] 45 (0, 0) := ⟨_, rfl⟩
 have HB := Aside0.mk ((Below.refl w.heap.size w).alloc (Nat.le_refl _) ob)
 have HX := Aside0.mk (heap_alloc_new w ob)
 rw [hob] at HB HX
 clear hob ob
 have hright' := huff_right.calls (2 * codes.length + 1000) A0 c0 codes true _ (Kd.C_below hr0 HB.out) hc0 hright
 have HCK := fun W1 hb => bits_Check.calls n A1 c1 W u W1 (Kd.C_below hr1 hb) hc1 hcheck
 have HCKH := Aside0.mk HCK
 clear HCK hr0 hr1 hright hcheck
 obtain ⟨res, hres⟩ : ∃ r : Int, r = if u = true then 3 else 2 := ⟨_, rfl⟩
 rw [← hres]
 have HRES := Aside0.mk hres
 have HBAD := Aside0.mk hbad
 clear hres hbad
 go_enter Try.func18, Try.ntmps18
 go_wp2
 go_step3
 go_wp2_with fail
 refine hright'.mono ?_
 rintro e w1 ⟨rfl, hb1⟩
 have HB1 := Aside0.mk (HB.out.trans (hb1.mono HB.out.size))
 have HX1 := Aside0.mk ((hb1.block _ (blk_lt HX.out)).trans HX.out)
 have x1 := (blk_cell HX1.out 0).trans rfl
 have x2 := (blk_cell HX1.out 1).trans rfl
 clear hb1 hright'
 go_wp2_with fail
 refine (HCKH.out _ HB1.out).mono ?_
 rintro e w2 ⟨rfl, hb2⟩
 have HB2 := Aside0.mk (HB1.out.trans (hb2.mono HB1.out.size))
 have HX2 := Aside0.mk ((hb2.block _ (blk_lt HX1.out)).trans HX1.out)
 clear hb2 x1 x2
 have x1 : w2.cell? ⟨w.heap.size, 0, none⟩ = some (.int .i64 n) := (blk_cell HX2.out 0).trans rfl
 have x2 : w2.cell? ⟨w.heap.size, 1, none⟩ = some (.slice A1 W.length c1) := (blk_cell HX2.out 1).trans rfl
 cases u with
 | false =>
  have hres : res = 2 := HRES.out
  subst hres
  go_wp2
  rw [Exit.noGoto_ret]
  go_ret3
  exact ⟨rfl, HB2.out⟩
 | true =>
  have hres : res = 3 := HRES.out
  subst hres
  have hbad := HBAD.out
  by_cases h1 : at_ < 0
  ·have d1 : decide (at_ < 0) = true := decide_eq_true h1
   clear hbad h1 HBAD
   go_wp2
   rw [Exit.noGoto_ret]
   go_ret3
   exact ⟨rfl, HB2.out⟩
  ·have d1 : decide (at_ < 0) = false := decide_eq_false h1
   have d2 : decide (n < at_) = true := decide_eq_true (by rcases hbad with h | h | h; cases h; exact absurd h h1; exact h)
   clear hbad h1 HBAD
   go_wp2
   rw [Exit.noGoto_ret]
   go_ret3
   exact ⟨rfl, HB2.out⟩
theorem huff_Next.calls (A0 : Option Addr) (c0 : Nat) (l0 : List S33) (a1_0 : Int) (A1_1 : Option Addr) (c1_1 : Nat) (l1_1 : List Int) (a2 : Int) (r1 : Int) (r2 : Int) (r3 : Int) (w : World) (hr0 : Kd.C k33 w A0 l0.length l0) (hc0 : l0.length ≤ c0) (hr1_1 : Kd.C (Kd.int .u64) w A1_1 l1_1.length l1_1) (hc1_1 : l1_1.length ≤ c1_1) (h : huff_Next.f l0 a1_0 l1_1 a2 = some (r1, r2, r3)) :
  Calls Try.prog 18 #[.slice A0 l0.length c0, .agg #[.int .i64 a1_0, .slice A1_1 l1_1.length c1_1], .int .i64 a2] w fun e w' => e = .returned (.tuple #[.int .i64 r1, .int .i64 r2, .int .i64 r3]) ∧ Below w.heap.size w w' := by
 unfold huff_Next.f at h
 split at h
 ·rename_i hl
  obtain ⟨t, ht, h⟩ := Option.bind_eq_some_iff.1 h
  cases t with
  | false =>
   rw [if_neg (by decide)] at h
   have h9 := Option.some.inj h
   simp only [Prod.mk.injEq] at h9
   obtain ⟨rfl, rfl, rfl⟩ := h9
   exact next_bad A0 c0 l0 a1_0 A1_1 c1_1 l1_1 a2 w hr0 hc0 ht
  | true =>
   rw [if_pos rfl] at h
   obtain ⟨u, hu, h⟩ := Option.bind_eq_some_iff.1 h
   have hb2 := next_bad2 A0 c0 l0 a1_0 A1_1 c1_1 l1_1 a2 w hr0 hc0 hr1_1 hc1_1 ht u hu
   cases u with
   | false =>
    rw [if_neg (by decide)] at h
    have h9 := Option.some.inj h
    simp only [Prod.mk.injEq] at h9
    obtain ⟨rfl, rfl, rfl⟩ := h9
    exact hb2 (.inl rfl)
   | true =>
    rw [if_pos rfl] at h
    by_cases h1 : a2 < 0
    ·rw [if_pos h1] at h
     have h9 := Option.some.inj h
     simp only [Prod.mk.injEq] at h9
     obtain ⟨rfl, rfl, rfl⟩ := h9
     exact hb2 (.inr (.inl h1))
    ·rw [if_neg h1] at h
     by_cases h2 : a2 > a1_0
     ·rw [if_pos h2] at h
      have h9 := Option.some.inj h
      simp only [Prod.mk.injEq] at h9
      obtain ⟨rfl, rfl, rfl⟩ := h9
      exact hb2 (.inr (.inr h2))
     ·rw [if_neg h2] at h
      split at h
      ·rename_i h3
       exact next_good A0 c0 l0 a1_0 A1_1 c1_1 l1_1 a2 (r1, r2, r3) w hr0 hc0 hr1_1 hc1_1 hl ht hu (by omega) (by omega) h3.1 h3.2 h
      ·cases h
 ·cases h

end Go.Proofs.Ytceompmfmceicaa.PHuffTells
