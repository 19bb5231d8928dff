-- written by a program of this project (print2)
import Derived.Test.YtceompmfmceicaaPHuffApartx0
import Derived.Test.YtceompmfmceicaaPHuffApartx3
import Derived.Test.YtceompmfmceicaaPHuffApartx8
namespace Go.Proofs.Ytceompmfmceicaa.PHuffApart
open Go.RowKit Go.Proofs.YtceompmfmceicaaW.PrintMine Go.Proofs.YtceompmfmceicaaW.PrintWords Go.Proofs.YtceompmfmceicaaW.PrintLast Go.Proofs.YtceompmfmceicaaW.PrintMore
attribute [local go_sem] max2_int min2_int max_two min_two max_three min_three max_four min_four   -- for this text's walks alone
set_option linter.unusedVariables false
set_option linter.unusedSimpArgs false

/-! ### haystacklaw11_HuffApart: function 4 -/
mutual
def haystacklaw11_HuffApart.j0 : Nat → Int → Int → List (S33) → Int → Bool → Option (Bool)
 | 0, _, _, _, _, _ => none
 | k + 1, x1, x2, x7, x8, x27 => if x27 = true then (if x8 = 0 then (none) else ((haystacklaw11_heads.f k).bind fun t197 => (some t197))) else (if 0 ≤ x1 then (if x1 < (x7.length : Int) then (if 0 ≤ x2 then (if x2 < (x7.length : Int) then (if x1 = x2 then (haystacklaw11_HuffApart.j1 k x1 x2 true ((rd_T33 x7 x1).f0) ((rd_T33 x7 x1).f1) ((rd_T33 x7 x2).f0) ((rd_T33 x7 x2).f1)) else (if ((rd_T33 x7 x1).f0) = 0 then (haystacklaw11_HuffApart.j1 k x1 x2 true ((rd_T33 x7 x1).f0) ((rd_T33 x7 x1).f1) ((rd_T33 x7 x2).f0) ((rd_T33 x7 x2).f1)) else (if ((rd_T33 x7 x2).f0) = 0 then (haystacklaw11_HuffApart.j1 k x1 x2 true ((rd_T33 x7 x1).f0) ((rd_T33 x7 x1).f1) ((rd_T33 x7 x2).f0) ((rd_T33 x7 x2).f1)) else (haystacklaw11_HuffApart.j1 k x1 x2 (decide (((rd_T33 x7 x1).f0) > ((rd_T33 x7 x2).f0))) ((rd_T33 x7 x1).f0) ((rd_T33 x7 x1).f1) ((rd_T33 x7 x2).f0) ((rd_T33 x7 x2).f1))))) else (none)) else (none)) else (none)) else (none))
def haystacklaw11_HuffApart.j1 : Nat → Int → Int → Bool → Int → Int → Int → Int → Option (Bool)
 | 0, _, _, _, _, _, _, _ => none
 | k + 1, x1, x2, x60, x201000, x201001, x202000, x202001 => if x60 = true then ((haystacklaw11_heads.f k).bind fun t202 => (some t202)) else (if 0 ≤ (IntKind.u64.wrap (wrap64 (x202000 - x201000))) then (if (shr .u64 x202001 (IntKind.u64.wrap (wrap64 (x202000 - x201000)))) = x201001 then (none) else (if x201000 < x202000 then (if (true == (decide (x201001 < (shr .u64 x202001 (IntKind.u64.wrap (wrap64 (x202000 - x201000))))))) = true then (if 0 ≤ (IntKind.u64.wrap (x201000)) then (if (shr .u64 x201001 (IntKind.u64.wrap (x201000))) = 0 then ((haystacklaw11_heads.f k).bind fun t203 => (some t203)) else (none)) else (none)) else (none)) else (if ((decide (x1 < x2)) == (decide (x201001 < (shr .u64 x202001 (IntKind.u64.wrap (wrap64 (x202000 - x201000))))))) = true then (if 0 ≤ (IntKind.u64.wrap (x201000)) then (if (shr .u64 x201001 (IntKind.u64.wrap (x201000))) = 0 then ((haystacklaw11_heads.f k).bind fun t204 => (some t204)) else (none)) else (none)) else (none)))) else (none))
end
def haystacklaw11_HuffApart.f (k : Nat) (l0 : List Int) (a1 : Int) (a2 : Int) : Option (Bool) := if (l0.length : Int) > 1000 then ((haystacklaw11_heads.f k).bind fun t192 => (some t192)) else ((huff_Codes.f l0).bind fun bt193 => (if bt193.2 = 0 then (haystacklaw11_HuffApart.j0 k a1 a2 bt193.1 bt193.2 ((bt193.1.length : Int) != 256)) else (haystacklaw11_HuffApart.j0 k a1 a2 bt193.1 bt193.2 true)))
theorem haystacklaw11_HuffApart.mono_l : ∀ k, (∀ y0 y1 y2 y3 y4, LeO (haystacklaw11_HuffApart.j0 k y0 y1 y2 y3 y4) (haystacklaw11_HuffApart.j0 (k + 1) y0 y1 y2 y3 y4)) ∧ (∀ y0 y1 y2 y3 y4 y5 y6, LeO (haystacklaw11_HuffApart.j1 k y0 y1 y2 y3 y4 y5 y6) (haystacklaw11_HuffApart.j1 (k + 1) y0 y1 y2 y3 y4 y5 y6))
 | 0 => ⟨fun _ _ _ _ _ r h => by simp [haystacklaw11_HuffApart.j0] at h, fun _ _ _ _ _ _ _ r h => by simp [haystacklaw11_HuffApart.j1] at h⟩
 | k + 1 => by
  obtain ⟨ih0, ih1⟩ := haystacklaw11_HuffApart.mono_l k
  refine ⟨?_, ?_⟩
  ·intro y0 y1 y2 y3 y4
   unfold haystacklaw11_HuffApart.j0
   repeat' first
   | (with_reducible exact ih0 _ _ _ _ _)
   | (with_reducible exact ih1 _ _ _ _ _ _ _)
   | (with_reducible exact haystacklaw11_heads.mono _)
   | (with_reducible exact LeO.refl _)
   | (with_reducible exact LeO.none _)
   | (with_reducible refine LeO.ite ?_ ?_)
   | (with_reducible refine LeO.bind ?_ (fun _ => ?_))
   | exact ih0 _ _ _ _ _
   | exact ih1 _ _ _ _ _ _ _
   | exact haystacklaw11_heads.mono _
   | exact LeO.none _
   | refine LeO.ite ?_ ?_
   | refine LeO.bind ?_ (fun _ => ?_)
  ·intro y0 y1 y2 y3 y4 y5 y6
   unfold haystacklaw11_HuffApart.j1
   repeat' first
   | (with_reducible exact ih0 _ _ _ _ _)
   | (with_reducible exact ih1 _ _ _ _ _ _ _)
   | (with_reducible exact haystacklaw11_heads.mono _)
   | (with_reducible exact LeO.refl _)
   | (with_reducible exact LeO.none _)
   | (with_reducible refine LeO.ite ?_ ?_)
   | (with_reducible refine LeO.bind ?_ (fun _ => ?_))
   | exact ih0 _ _ _ _ _
   | exact ih1 _ _ _ _ _ _ _
   | exact haystacklaw11_heads.mono _
   | exact LeO.none _
   | refine LeO.ite ?_ ?_
   | refine LeO.bind ?_ (fun _ => ?_)
theorem haystacklaw11_HuffApart.mono : ∀ a0 a1 a2 k, LeO (haystacklaw11_HuffApart.f k a0 a1 a2) (haystacklaw11_HuffApart.f (k + 1) a0 a1 a2) := by
 intro a0 a1 a2 k
 obtain ⟨ih0, ih1⟩ := haystacklaw11_HuffApart.mono_l k
 unfold haystacklaw11_HuffApart.f
 repeat' first
   | (with_reducible exact ih0 _ _ _ _ _)
   | (with_reducible exact ih1 _ _ _ _ _ _ _)
   | (with_reducible exact haystacklaw11_heads.mono _)
   | (with_reducible exact LeO.refl _)
   | (with_reducible exact LeO.none _)
   | (with_reducible refine LeO.ite ?_ ?_)
   | (with_reducible refine LeO.bind ?_ (fun _ => ?_))
   | exact ih0 _ _ _ _ _
   | exact ih1 _ _ _ _ _ _ _
   | exact haystacklaw11_heads.mono _
   | exact LeO.none _
   | refine LeO.ite ?_ ?_
   | refine LeO.bind ?_ (fun _ => ?_)
def haystacklaw11_HuffApart.T6 : Bool × List (List Nat × List Nat) := (true, [([], []), ([], []), ([0, 1], [0, 1]), ([2], [2]), ([], []), ([], []), ([4, 5], [4, 5]), ([6], [6]), ([], []), ([], []), ([8, 3, 0, 1, 2, 3, 8, 9], [3, 8]), ([9, 7, 10, 0, 1, 2, 3, 4, 5, 6, 7, 8, 9, 10], [7, 9])])
def haystacklaw11_HuffApart.B6 : List Nat := [0, 0, 3, 7, 0, 0, 48, 112, 0, 0, 783, 2047]
theorem haystacklaw11_HuffApart.tab6 : rtab .any (opsOf Try.f4 6) = haystacklaw11_HuffApart.T6 := by kernel_rfl
theorem haystacklaw11_HuffApart.bits6 : waitsOk haystacklaw11_HuffApart.T6.2 haystacklaw11_HuffApart.B6 = true := by kernel_rfl
set_option maxHeartbeats 8000000 in
set_option maxRecDepth 100000 in
theorem haystacklaw11_HuffApart.calls (k : Nat) (A0 : Option Addr) (c0 : Nat) (l0 : List Int) (a1 : Int) (a2 : Int) (r : Bool) (w : World) (hr0 : Kd.C (Kd.int .i64) w A0 l0.length l0) (hc0 : l0.length ≤ c0) (h : haystacklaw11_HuffApart.f k l0 a1 a2 = some r) :
  Calls Try.prog 4 #[.slice A0 l0.length c0, .int .u8 a1, .int .u8 a2] w fun e w' => e = .returned (.bool r) ∧ Below w.heap.size w w' := by
 have hu33 := Try.underlying33
 have HR0 := Aside0.mk hr0
 have HC0 := Aside0.mk hc0
 clear hr0 hc0
 have HB := Aside0.mk (Below.refl w.heap.size w)
 have H : (if (l0.length : Int) > 1000 then ((haystacklaw11_heads.f k).bind fun t192 => (some t192)) else ((huff_Codes.f l0).bind fun bt193 => (if bt193.2 = 0 then (haystacklaw11_HuffApart.j0 k a1 a2 bt193.1 bt193.2 ((bt193.1.length : Int) != 256)) else (haystacklaw11_HuffApart.j0 k a1 a2 bt193.1 bt193.2 true)))) = some r := h
 clear h
 by_cases c4 : (l0.length : Int) > 1000
 ·rw [if_pos c4] at H
  have c4b0 : decide (1000 < (l0.length : Int)) = true := decide_eq_true c4
  have c4b1 : decide (1000 < l0.length) = true := decide_eq_true (by omega)
  clear c4
  replace H := Option.bind_eq_some_iff.mp H
  obtain ⟨t192, A50, H⟩ := H
  replace H : (some t192) = some r := H
  have A5 := Aside0.mk A50
  clear A50
  obtain rfl := Option.some.inj H
  go_enter Try.func4, Try.ntmps4
  go_wp2_with (first | ((with_reducible refine gate_callee (f := 8) rfl ?_); refine goesL_ (some 15) rfl rfl Try.func8 (by kernel_rfl) rfl #[] rfl (by (try simp only [List.map_toArray, List.map_cons, List.map_nil]); first | done | rfl | (simp only [List.length_drop, List.length_take]; rfl)) ?_; (with_reducible refine (haystacklaw11_heads.calls k  t192 _ A5.out).mono ?_); rintro e w6 ⟨rfl, hb⟩; refine ⟨_, rfl, ?_⟩; have n0_ := Aside0.mk (below_step (by repeat (first | (with_reducible first | exact HB.out | apply below_alloc | apply pw_below_drewN | apply below_drew1) | exact HB.out)) hb); clear HB; have HB := n0_; clear n0_; (try clear hb); (try clear hb2); (try clear hk); (try clear hi)))
  go_ret
  exact ⟨by first | rfl | (simp [errW_none, errW_some] <;> rfl) | (simp [*, errW_none, errW_some] <;> rfl), by repeat (first | (with_reducible first | exact HB.out | apply below_alloc | apply pw_below_drewN | apply below_drew1) | exact HB.out)⟩
 ·rw [if_neg c4] at H
  have c4b0 : decide (1000 < (l0.length : Int)) = false := decide_eq_false c4
  have c4b1 : decide (1000 < l0.length) = false := decide_eq_false (by omega)
  clear c4
  replace H := Option.bind_eq_some_iff.mp H
  obtain ⟨⟨t193, t194⟩, A70, H⟩ := H
  replace H : (if t194 = 0 then (haystacklaw11_HuffApart.j0 k a1 a2 t193 t194 ((t193.length : Int) != 256)) else (haystacklaw11_HuffApart.j0 k a1 a2 t193 t194 true)) = some r := H
  have A7 := Aside0.mk A70
  clear A70
  have HC8 := Aside0.mk H
  clear H
  go_enter Try.func4, Try.ntmps4
  go_upto_region 4 with (first | ((with_reducible refine gate_callee (f := 10) rfl ?_); refine goesL_ (some 18) rfl rfl Try.func10 (by kernel_rfl) rfl #[.slice A0 l0.length c0] rfl (by (try simp only [List.map_toArray, List.map_cons, List.map_nil]); first | done | rfl | (simp only [List.length_drop, List.length_take]; rfl)) ?_; (with_reducible refine (huff_Codes.calls _ _ l0 t193 t194 _ ?side1 ?side2 A7.out).mono ?_); (case side1 => repeat (first | exact HR0.out | (with_reducible refine Kd.C_alloc ?_ _) | (with_reducible refine Kd.C_drewN ?_ _) | (with_reducible refine Kd.C_drew ?_))); (case side2 => exact HC0.out); rintro e w9 ⟨v195, rfl, ho0, hb⟩; refine ⟨_, rfl, ?_⟩; have n0_ := Aside0.mk (Kd.R_lower ho0 (below_size (by repeat (first | (with_reducible first | exact HB.out | apply below_alloc | apply pw_below_drewN | apply below_drew1) | exact HB.out)))); have n1_ := Aside0.mk (below_step (by repeat (first | (with_reducible first | exact HB.out | apply below_alloc | apply pw_below_drewN | apply below_drew1) | exact HB.out)) hb); clear HB; have HO196 := n0_; have HB := n1_; clear n0_ n1_; (try clear hb); (try clear hb2); (try clear hk); (try clear hi); (try clear ho0)))
  (try simp only [Act.put, List.setIfInBounds_toArray, List.set_cons_zero, List.set_cons_succ])
  go_cut [27] (fun v27 wc => ∃ (kq : Nat) (x27_7 : Bool), v27 = .bool x27_7 ∧ Aside0 (haystacklaw11_HuffApart.j0 kq a1 a2 t193 t194 x27_7 = some r) ∧ Aside0 (kq ≤ k) ∧ Aside0 (Kd.R k33 33 wc w.heap.size (fun _ => True) v195 t193) ∧ Aside0 (Below w.heap.size w wc))
  case first =>
   have H := HC8.out
   clear HC8
   by_cases c10 : t194 = 0
   ·rw [if_pos c10] at H
    have c10b0 : (t194 == 0) = true := beq_iff_eq.mpr c10
    have c10b1 : (t194 != 0) = false := bne_eq_false_iff_eq.mpr c10
    clear c10
    (first | rw [c10b0] | (simp only [i64_w, i32_w]; rw [c10b0]) | skip)
    have H' := Aside0.mk H
    clear H
    obtain ⟨Ao11, co11, eo11⟩ := Kd.R_slice HO196.out
    subst eo11
    go_wp2
    go_meet
    case rel => exact ⟨_, (((t193.length : Int) != 256)), (by first | rfl | (simp; done) | (simp [*]; done)), H', ⟨by first | omega | exact Nat.le_refl _⟩, ⟨by (with_reducible repeat (first | apply Kd.R_alloc | apply Kd.R_drewN | apply Kd.R_drew)); exact HO196.out⟩, ⟨by repeat (first | (with_reducible first | exact HB.out | apply below_alloc | apply pw_below_drewN | apply below_drew1) | exact HB.out)⟩⟩
   ·rw [if_neg c10] at H
    have c10b0 : (t194 == 0) = false := beq_eq_false_iff_ne.mpr c10
    have c10b1 : (t194 != 0) = true := bne_iff_ne.mpr c10
    (first | rw [c10b0] | (simp only [i64_w, i32_w]; rw [c10b0]) | skip)
    have H' := Aside0.mk H
    clear H
    go_wp2
    go_meet
    case rel => exact ⟨_, (true), (by first | rfl | (simp; done) | (simp [*]; done)), H', ⟨by first | omega | exact Nat.le_refl _⟩, ⟨by (with_reducible repeat (first | apply Kd.R_alloc | apply Kd.R_drewN | apply Kd.R_drew)); exact HO196.out⟩, ⟨by repeat (first | (with_reducible first | exact HB.out | apply below_alloc | apply pw_below_drewN | apply below_drew1) | exact HB.out)⟩⟩
  case rest =>
   clear HC8
   try clear c1
   try clear p2
   try clear c4
   try clear c4b0
   try clear c4b1
   try clear c8
   try clear c10
   try clear c10b0
   try clear c10b1
   obtain ⟨kq, x27_7, rfl, HA, HJ7, HO_7, HB⟩ := hcut
   cases kq with
   | zero => exact absurd HA.out (by simp [haystacklaw11_HuffApart.j0])
   | succ kj7 =>
    have H := HA.out
    clear HA
    simp only [haystacklaw11_HuffApart.j0] at H
    by_cases c12 : x27_7 = true
    ·subst c12
     have H1 : (if t194 = 0 then (none) else ((haystacklaw11_heads.f kj7).bind fun t197 => (some t197))) = some r := by rw [if_pos rfl] at H; exact H
     clear H
     have H := H1
     clear H1
     by_cases c13 : t194 = 0
     ·rw [if_pos c13] at H
      exact absurd H (by simp)
     ·rw [if_neg c13] at H
      have c13b0 : (t194 == 0) = false := beq_eq_false_iff_ne.mpr c13
      have c13b1 : (t194 != 0) = true := bne_iff_ne.mpr c13
      replace H := Option.bind_eq_some_iff.mp H
      obtain ⟨t197, A140, H⟩ := H
      replace H : (some t197) = some r := H
      have A14 := Aside0.mk A140
      clear A140
      obtain rfl := Option.some.inj H
      go_wp2_with (first | (go_at_call 8; (with_reducible refine (haystacklaw11_heads.calls kj7  t197 _ A14.out).mono ?_); rintro e w15 ⟨rfl, hb⟩; have n0_ := Aside0.mk (Kd.R_below (by (with_reducible repeat (first | apply Kd.R_alloc | apply Kd.R_drewN | apply Kd.R_drew)); exact HO_7.out) hb); have n1_ := Aside0.mk (below_step (by repeat (first | (with_reducible first | exact HB.out | apply below_alloc | apply pw_below_drewN | apply below_drew1) | exact HB.out)) hb); clear HO_7; clear HB; have HO_7 := n0_; have HB := n1_; clear n0_ n1_; (try clear hb); (try clear hb2); (try clear hk); (try clear hi)))
      go_ret
      exact ⟨by first | rfl | (simp [errW_none, errW_some] <;> rfl) | (simp [*, errW_none, errW_some] <;> rfl), by repeat (first | (with_reducible first | exact HB.out | apply below_alloc | apply pw_below_drewN | apply below_drew1) | exact HB.out)⟩
    ·replace c12 := Bool.eq_false_iff.mpr c12
     subst c12
     have H1 : (if 0 ≤ a1 then (if a1 < (t193.length : Int) then (if 0 ≤ a2 then (if a2 < (t193.length : Int) then (if a1 = a2 then (haystacklaw11_HuffApart.j1 kj7 a1 a2 true ((rd_T33 t193 a1).f0) ((rd_T33 t193 a1).f1) ((rd_T33 t193 a2).f0) ((rd_T33 t193 a2).f1)) else (if ((rd_T33 t193 a1).f0) = 0 then (haystacklaw11_HuffApart.j1 kj7 a1 a2 true ((rd_T33 t193 a1).f0) ((rd_T33 t193 a1).f1) ((rd_T33 t193 a2).f0) ((rd_T33 t193 a2).f1)) else (if ((rd_T33 t193 a2).f0) = 0 then (haystacklaw11_HuffApart.j1 kj7 a1 a2 true ((rd_T33 t193 a1).f0) ((rd_T33 t193 a1).f1) ((rd_T33 t193 a2).f0) ((rd_T33 t193 a2).f1)) else (haystacklaw11_HuffApart.j1 kj7 a1 a2 (decide (((rd_T33 t193 a1).f0) > ((rd_T33 t193 a2).f0))) ((rd_T33 t193 a1).f0) ((rd_T33 t193 a1).f1) ((rd_T33 t193 a2).f0) ((rd_T33 t193 a2).f1))))) else (none)) else (none)) else (none)) else (none)) = some r := by rw [if_neg (show ¬ (false = true) by decide)] at H; exact H
     clear H
     have H := H1
     clear H1
     by_cases c16 : 0 ≤ a1
     ·rw [if_pos c16] at H
      have c16b0 : decide (0 ≤ a1) = true := decide_eq_true c16
      clear c16
      by_cases c17 : a1 < (t193.length : Int)
      ·rw [if_pos c17] at H
       have c17b0 : decide (a1 < (t193.length : Int)) = true := decide_eq_true c17
       clear c17
       by_cases c18 : 0 ≤ a2
       ·rw [if_pos c18] at H
        have c18b0 : decide (0 ≤ a2) = true := decide_eq_true c18
        clear c18
        by_cases c19 : a2 < (t193.length : Int)
        ·rw [if_pos c19] at H
         have c19b0 : decide (a2 < (t193.length : Int)) = true := decide_eq_true c19
         clear c19
         have HC20 := Aside0.mk H
         clear H
         try go_wp2
         have n0_ := Aside0.mk (Kd.R_drew HO_7.out)
         have n1_ := Aside0.mk (below_drew1 HB.out)
         clear HO_7
         clear HB
         have HO_7 := n0_
         have HB := n1_
         clear n0_ n1_
         obtain ⟨Ao22, co22, eo22⟩ := Kd.R_slice HO_7.out
         (first | subst eo22 | (injection eo22 with f1_ f2_ f3_; have f4_ := f1_.symm; have f5_ := f3_.symm; clear f1_ f2_ f3_; subst f4_; subst f5_))
         have p198 : 0 ≤ (a1 : Int) := of_decide_eq_true (by first | (with_reducible assumption) | assumption)
         have q198 : a1 < (t193.length : Int) := of_decide_eq_true (by first | (with_reducible assumption) | assumption)
         obtain ⟨ad198, e198, hx198_0, hx198_1⟩ := at_T33 (Kd.R_reads' HO_7.out).2.2 a1 p198 q198
         cases e198
         replace p198 := eq_true p198
         replace q198 := eq_true q198
         have p199 : 0 ≤ (a2 : Int) := of_decide_eq_true (by first | (with_reducible assumption) | assumption)
         have q199 : a2 < (t193.length : Int) := of_decide_eq_true (by first | (with_reducible assumption) | assumption)
         obtain ⟨ad199, e199, hx199_0, hx199_1⟩ := at_T33 (Kd.R_reads' HO_7.out).2.2 a2 p199 q199
         obtain rfl : ad198 = ad199 := (by injection e199)
         replace p199 := eq_true p199
         replace q199 := eq_true q199
         refine start_ (n := 12) (S := fun w' => w'.cell? (ad198.add ((a1).toNat * 2)) = some (.int .i64 ((rd_T33 t193 a1).f0)) ∧ w'.cell? ⟨(ad198.add ((a1).toNat * 2)).block, (ad198.add ((a1).toNat * 2)).off + 1, none⟩ = some (.int .u64 ((rd_T33 t193 a1).f1)) ∧ w'.cell? (ad198.add ((a2).toNat * 2)) = some (.int .i64 ((rd_T33 t193 a2).f0)) ∧ w'.cell? ⟨(ad198.add ((a2).toNat * 2)).block, (ad198.add ((a2).toNat * 2)).off + 1, none⟩ = some (.int .u64 ((rd_T33 t193 a2).f1))) (ds := []) #[false, false, false, false, false, false, false, false, false, false, false, false] (by kernel_rfl) rfl rfl ⟨hx198_0, hx198_1, hx199_0, hx199_1⟩ (fun hHeld => ?_); refine with_tabW haystacklaw11_HuffApart.tab6 haystacklaw11_HuffApart.bits6 (fun HT_ HW_ => ?_)
         generalize wc.drew = w21 at HO_7 HB hx198_0 hx198_1 hx199_0 hx199_1 hHeld ⊢
         refine pure_ (i := 0) (N := some 33) (v := ?_) (a' := ?_) #[true, false, false, false, false, false, false, false, false, false, false, false] rfl rfl (any_of HT_.out (by kernel_rfl)) (fun _ _ _ h => h) (Or.inl ⟨by rfl, ?_⟩) ?_ ?_
         rotate_left
         ·intro w'
          go_simp
          with_reducible rfl
         rotate_left
         ·simp only [Act.put, List.setIfInBounds_toArray, List.set_cons_zero, List.set_cons_succ, i64_w, i32_w]
          rfl
         refine pure_ (i := 1) (N := some 34) (v := ?_) (a' := ?_) #[true, true, false, false, false, false, false, false, false, false, false, false] rfl rfl (any_of HT_.out (by kernel_rfl)) (fun _ _ _ h => h) (Or.inl ⟨by rfl, ?_⟩) ?_ ?_
         rotate_left
         ·intro w'
          go_simp
          with_reducible rfl
         rotate_left
         ·simp only [Act.put, List.setIfInBounds_toArray, List.set_cons_zero, List.set_cons_succ, i64_w, i32_w]
          rfl
         refine pure_ (i := 2) (N := some 35) (v := ?_) (a' := ?_) #[true, true, true, false, false, false, false, false, false, false, false, false] rfl rfl (any_of HT_.out (by kernel_rfl)) (fun _ _ _ h => h) (Or.inl ⟨by rfl, ?_⟩) ?_ ?_
         rotate_left
         ·intro w'
          go_simp
          with_reducible rfl
         rotate_left
         ·simp only [Act.put, List.setIfInBounds_toArray, List.set_cons_zero, List.set_cons_succ, i64_w, i32_w]
          rfl
         refine pure_ (i := 4) (N := some 37) (v := ?_) (a' := ?_) #[true, true, true, false, true, false, false, false, false, false, false, false] rfl rfl (any_of HT_.out (by kernel_rfl)) (fun _ _ _ h => h) (Or.inl ⟨by rfl, ?_⟩) ?_ ?_
         rotate_left
         ·intro w'
          go_simp
          with_reducible rfl
         rotate_left
         ·simp only [Act.put, List.setIfInBounds_toArray, List.set_cons_zero, List.set_cons_succ, i64_w, i32_w]
          rfl
         refine pure_ (i := 5) (N := some 38) (v := ?_) (a' := ?_) #[true, true, true, false, true, true, false, false, false, false, false, false] rfl rfl (any_of HT_.out (by kernel_rfl)) (fun _ _ _ h => h) (Or.inl ⟨by rfl, ?_⟩) ?_ ?_
         rotate_left
         ·intro w'
          go_simp
          with_reducible rfl
         rotate_left
         ·simp only [Act.put, List.setIfInBounds_toArray, List.set_cons_zero, List.set_cons_succ, i64_w, i32_w]
          rfl
         refine pure_ (i := 6) (N := some 39) (v := ?_) (a' := ?_) #[true, true, true, false, true, true, true, false, false, false, false, false] rfl rfl (any_of HT_.out (by kernel_rfl)) (fun _ _ _ h => h) (Or.inl ⟨by rfl, ?_⟩) ?_ ?_
         rotate_left
         ·intro w'
          go_simp
          with_reducible rfl
         rotate_left
         ·simp only [Act.put, List.setIfInBounds_toArray, List.set_cons_zero, List.set_cons_succ, i64_w, i32_w]
          rfl
         refine take_ (i := 3) (N := some 36) (v := ?_) (a' := ?_) #[true, true, true, true, true, true, true, false, false, false, false, false] rfl rfl (take_ofW HT_.out HW_.out (by kernel_rfl)) (fun _ _ _ h => h) (Or.inl ⟨by rfl, ?_⟩) hHeld ?_ ?_
         rotate_left
         ·rintro w' ⟨s0, s1, s2, s3⟩
          go_simp
          with_reducible rfl
         rotate_left
         ·simp only [Act.put, List.setIfInBounds_toArray, List.set_cons_zero, List.set_cons_succ, i64_w, i32_w]
          rfl
         refine take_ (i := 7) (N := some 40) (v := ?_) (a' := ?_) #[true, true, true, true, true, true, true, true, false, false, false, false] rfl rfl (take_ofW HT_.out HW_.out (by kernel_rfl)) (fun _ _ _ h => h) (Or.inl ⟨by rfl, ?_⟩) hHeld ?_ ?_
         rotate_left
         ·rintro w' ⟨s0, s1, s2, s3⟩
          go_simp
          with_reducible rfl
         rotate_left
         ·simp only [Act.put, List.setIfInBounds_toArray, List.set_cons_zero, List.set_cons_succ, i64_w, i32_w]
          rfl
         refine join_ (σ := Nat × Nat) 2 #[true, true, true, true, true, true, true, true, true, true, false, false] (fun s_ => [(9, .pointer (some ⟨s_.1, 0, none⟩)), (10, .pointer (some ⟨s_.2, 0, none⟩))]) (fun s_ w' => (w'.cell? (ad198.add ((a1).toNat * 2)) = some (.int .i64 ((rd_T33 t193 a1).f0)) ∧ w'.cell? ⟨(ad198.add ((a1).toNat * 2)).block, (ad198.add ((a1).toNat * 2)).off + 1, none⟩ = some (.int .u64 ((rd_T33 t193 a1).f1)) ∧ w'.cell? (ad198.add ((a2).toNat * 2)) = some (.int .i64 ((rd_T33 t193 a2).f0)) ∧ w'.cell? ⟨(ad198.add ((a2).toNat * 2)).block, (ad198.add ((a2).toNat * 2)).off + 1, none⟩ = some (.int .u64 ((rd_T33 t193 a2).f1))) ∧ (Kd.R k33 33 w' w.heap.size (fun k_ => k_ ≠ s_.1 ∧ k_ ≠ s_.2) (.slice (some ad198) t193.length co22) t193) ∧ (w'.heap[s_.1]? = some (.cells #[.int .i64 0, .int .u64 0] 33 (0, 0))) ∧ (w'.heap[s_.2]? = some (.cells #[.int .i64 0, .int .u64 0] 33 (0, 0))) ∧ (w.heap.size ≤ s_.1) ∧ (w.heap.size ≤ s_.1) ∧ (s_.2 ≠ s_.1) ∧ (s_.1 ≠ s_.2) ∧ (w.heap.size ≤ s_.2) ∧ (w.heap.size ≤ s_.2) ∧ (Below w.heap.size w w')) ?_ ?_
         rotate_left
         ·intro hCont
          refine two_ (i := 8) (j := 9) (Ni := some 9) (Nj := some 10) #[true, true, true, true, true, true, true, true, true, false, false, false] #[true, true, true, true, true, true, true, true, false, true, false, false] rfl rfl rfl rfl (two_of HT_.out (by kernel_rfl)) (by decide) (by decide) (fun K hK => ?_) (fun K hK => ?_)
          ·skip
           refine box_step ?hg (N := 9) ?hd (cs := #[.int .i64 0, .int .u64 0]) (t := 33) ?hr ?_; (case hd => rfl); (case hg => rfl); (case hr => first | (go_simp; done) | (go_simp; rfl))
           intro gb200 hg w23 hbox hb
           have HS0_ := (hb.cell (World.block_lt_of_cell? _ _ (hHeld.1))).trans (hHeld.1)
           have HS1_ := (hb.cell (World.block_lt_of_cell? _ _ (hHeld.2.1))).trans (hHeld.2.1)
           have HS2_ := (hb.cell (World.block_lt_of_cell? _ _ (hHeld.2.2.1))).trans (hHeld.2.2.1)
           have HS3_ := (hb.cell (World.block_lt_of_cell? _ _ (hHeld.2.2.2))).trans (hHeld.2.2.2)
           have n0_ := Aside0.mk (Kd.R_below (Kd.R_elderB (by (with_reducible repeat (first | apply Kd.R_alloc | apply Kd.R_drewN | apply Kd.R_drew)); exact HO_7.out) gb200 (Nat.le_of_eq hg.symm)) hb)
           have n1_ := Aside0.mk (below_step (by repeat (first | (with_reducible first | exact HB.out | apply below_alloc | apply pw_below_drewN | apply below_drew1) | exact HB.out)) hb)
           have n2_ := Aside0.mk (hbox)
           have n3_ := Aside0.mk ((by rw [hg]; exact (below_size (by repeat (first | (with_reducible first | exact HB.out | apply below_alloc | apply pw_below_drewN | apply below_drew1) | exact HB.out))) : w.heap.size ≤ gb200))
           have n4_ := Aside0.mk ((by rw [hg]; exact (below_size (by repeat (first | (with_reducible first | exact HB.out | apply below_alloc | apply pw_below_drewN | apply below_drew1) | exact HB.out))) : w.heap.size ≤ gb200))
           clear HO_7
           clear HB
           have HO_7 := n0_
           have HB := n1_
           have BK200 := n2_
           have GW200 := n3_
           have GE200 := n4_
           clear n0_ n1_ n2_ n3_ n4_
           clear hb hbox hg
           refine hK.out _ _ ⟨HS0_, HS1_, HS2_, HS3_⟩ (fun hHeld => ?_)
           clear hK K
           refine norm_ (a' := ?_) ?_ ?_
           rotate_left
           ·show Act.put _ (some 9) _ = _
            simp only [Act.put, List.setIfInBounds_toArray, List.set_cons_zero, List.set_cons_succ, i64_w, i32_w]
            rfl
           refine one_ (i := 9) (N := some 10) #[true, true, true, true, true, true, true, true, true, true, false, false] rfl rfl (one_of HT_.out (by kernel_rfl)) (by decide) (fun K hK => ?_)
           refine box_step ?hg (N := 10) ?hd (cs := #[.int .i64 0, .int .u64 0]) (t := 33) ?hr ?_; (case hd => rfl); (case hg => rfl); (case hr => first | (go_simp; done) | (go_simp; rfl))
           intro gb201 hg w24 hbox hb
           have HS0_ := (hb.cell (World.block_lt_of_cell? _ _ (hHeld.1))).trans (hHeld.1)
           have HS1_ := (hb.cell (World.block_lt_of_cell? _ _ (hHeld.2.1))).trans (hHeld.2.1)
           have HS2_ := (hb.cell (World.block_lt_of_cell? _ _ (hHeld.2.2.1))).trans (hHeld.2.2.1)
           have HS3_ := (hb.cell (World.block_lt_of_cell? _ _ (hHeld.2.2.2))).trans (hHeld.2.2.2)
           have n0_ := Aside0.mk (Kd.R_below (Kd.R_elderB (by (with_reducible repeat (first | apply Kd.R_alloc | apply Kd.R_drewN | apply Kd.R_drew)); exact HO_7.out) gb201 (Nat.le_of_eq hg.symm)) hb)
           have n1_ := Aside0.mk (blk_below (g := gb200) (o := .cells #[.int .i64 0, .int .u64 0] 33 (0, 0)) (by (with_reducible repeat (first | refine blk_drewN ?_ _ | refine blk_drew ?_ | refine blk_alloc ?_ _)); exact BK200.out) hb)
           have n2_ := Aside0.mk (below_step (by repeat (first | (with_reducible first | exact HB.out | apply below_alloc | apply pw_below_drewN | apply below_drew1 | refine below_set ?_ GE200.out) | exact HB.out)) hb)
           have n3_ := Aside0.mk (hbox)
           have n4_ := Aside0.mk ((by rw [hg]; exact (below_size (by repeat (first | (with_reducible first | exact HB.out | apply below_alloc | apply pw_below_drewN | apply below_drew1 | refine below_set ?_ GE200.out) | exact HB.out))) : w.heap.size ≤ gb201))
           have n5_ := Aside0.mk ((by rw [hg]; exact (below_size (by repeat (first | (with_reducible first | exact HB.out | apply below_alloc | apply pw_below_drewN | apply below_drew1 | refine below_set ?_ GE200.out) | exact HB.out))) : w.heap.size ≤ gb201))
           have n6_ := Aside0.mk ((by rw [hg]; exact Nat.ne_of_lt (blk_lt (g := gb200) (o := .cells #[.int .i64 0, .int .u64 0] 33 (0, 0)) (by (with_reducible repeat (first | refine blk_drewN ?_ _ | refine blk_drew ?_ | refine blk_alloc ?_ _)); exact BK200.out)) : gb200 ≠ gb201))
           have n7_ := Aside0.mk ((by rw [hg]; exact Nat.ne_of_gt (blk_lt (g := gb200) (o := .cells #[.int .i64 0, .int .u64 0] 33 (0, 0)) (by (with_reducible repeat (first | refine blk_drewN ?_ _ | refine blk_drew ?_ | refine blk_alloc ?_ _)); exact BK200.out)) : gb201 ≠ gb200))
           clear HO_7
           clear BK200
           clear HB
           have HO_7 := n0_
           have BK200 := n1_
           have HB := n2_
           have BK201 := n3_
           have GW201 := n4_
           have GE201 := n5_
           have NB200_201 := n6_
           have NB201_200 := n7_
           clear n0_ n1_ n2_ n3_ n4_ n5_ n6_ n7_
           clear hb hbox hg
           refine hK.out _ _ ⟨HS0_, HS1_, HS2_, HS3_⟩ (fun hHeld => ?_)
           clear hK K
           refine norm_ (a' := ?_) ?_ ?_
           rotate_left
           ·show Act.put _ (some 10) _ = _
            simp only [Act.put, List.setIfInBounds_toArray, List.set_cons_zero, List.set_cons_succ, i64_w, i32_w]
            rfl
           exact norm_ (by simp only [putAll, Act.put, List.setIfInBounds_toArray, List.set_cons_zero, List.set_cons_succ]) (hCont (gb200, gb201) _ ⟨hHeld, (by (with_reducible repeat (first | apply Kd.R_alloc | apply Kd.R_drewN | apply Kd.R_drew)); exact Kd.R_mono HO_7.out (fun _ hk => ⟨hk.1.2, hk.2⟩)), (by (with_reducible repeat (first | refine blk_drewN ?_ _ | refine blk_drew ?_ | refine blk_alloc ?_ _)); exact BK200.out), (by (with_reducible repeat (first | refine blk_drewN ?_ _ | refine blk_drew ?_ | refine blk_alloc ?_ _)); exact BK201.out), GW200.out, GE200.out, NB201_200.out, NB200_201.out, GW201.out, GE201.out, (by repeat (first | (with_reducible first | exact HB.out | apply below_alloc | apply pw_below_drewN | apply below_drew1 | refine below_set ?_ GE200.out | refine below_set ?_ GE201.out) | exact HB.out))⟩)
          ·skip
           refine box_step ?hg (N := 10) ?hd (cs := #[.int .i64 0, .int .u64 0]) (t := 33) ?hr ?_; (case hd => rfl); (case hg => rfl); (case hr => first | (go_simp; done) | (go_simp; rfl))
           intro gb201 hg w23 hbox hb
           have HS0_ := (hb.cell (World.block_lt_of_cell? _ _ (hHeld.1))).trans (hHeld.1)
           have HS1_ := (hb.cell (World.block_lt_of_cell? _ _ (hHeld.2.1))).trans (hHeld.2.1)
           have HS2_ := (hb.cell (World.block_lt_of_cell? _ _ (hHeld.2.2.1))).trans (hHeld.2.2.1)
           have HS3_ := (hb.cell (World.block_lt_of_cell? _ _ (hHeld.2.2.2))).trans (hHeld.2.2.2)
           have n0_ := Aside0.mk (Kd.R_below (Kd.R_elderB (by (with_reducible repeat (first | apply Kd.R_alloc | apply Kd.R_drewN | apply Kd.R_drew)); exact HO_7.out) gb201 (Nat.le_of_eq hg.symm)) hb)
           have n1_ := Aside0.mk (below_step (by repeat (first | (with_reducible first | exact HB.out | apply below_alloc | apply pw_below_drewN | apply below_drew1) | exact HB.out)) hb)
           have n2_ := Aside0.mk (hbox)
           have n3_ := Aside0.mk ((by rw [hg]; exact (below_size (by repeat (first | (with_reducible first | exact HB.out | apply below_alloc | apply pw_below_drewN | apply below_drew1) | exact HB.out))) : w.heap.size ≤ gb201))
           have n4_ := Aside0.mk ((by rw [hg]; exact (below_size (by repeat (first | (with_reducible first | exact HB.out | apply below_alloc | apply pw_below_drewN | apply below_drew1) | exact HB.out))) : w.heap.size ≤ gb201))
           clear HO_7
           clear HB
           have HO_7 := n0_
           have HB := n1_
           have BK201 := n2_
           have GW201 := n3_
           have GE201 := n4_
           clear n0_ n1_ n2_ n3_ n4_
           clear hb hbox hg
           refine hK.out _ _ ⟨HS0_, HS1_, HS2_, HS3_⟩ (fun hHeld => ?_)
           clear hK K
           refine norm_ (a' := ?_) ?_ ?_
           rotate_left
           ·show Act.put _ (some 10) _ = _
            simp only [Act.put, List.setIfInBounds_toArray, List.set_cons_zero, List.set_cons_succ, i64_w, i32_w]
            rfl
           refine one_ (i := 8) (N := some 9) #[true, true, true, true, true, true, true, true, true, true, false, false] rfl rfl (one_of HT_.out (by kernel_rfl)) (by decide) (fun K hK => ?_)
           refine box_step ?hg (N := 9) ?hd (cs := #[.int .i64 0, .int .u64 0]) (t := 33) ?hr ?_; (case hd => rfl); (case hg => rfl); (case hr => first | (go_simp; done) | (go_simp; rfl))
           intro gb200 hg w24 hbox hb
           have HS0_ := (hb.cell (World.block_lt_of_cell? _ _ (hHeld.1))).trans (hHeld.1)
           have HS1_ := (hb.cell (World.block_lt_of_cell? _ _ (hHeld.2.1))).trans (hHeld.2.1)
           have HS2_ := (hb.cell (World.block_lt_of_cell? _ _ (hHeld.2.2.1))).trans (hHeld.2.2.1)
           have HS3_ := (hb.cell (World.block_lt_of_cell? _ _ (hHeld.2.2.2))).trans (hHeld.2.2.2)
           have n0_ := Aside0.mk (Kd.R_below (Kd.R_elderB (by (with_reducible repeat (first | apply Kd.R_alloc | apply Kd.R_drewN | apply Kd.R_drew)); exact HO_7.out) gb200 (Nat.le_of_eq hg.symm)) hb)
           have n1_ := Aside0.mk (blk_below (g := gb201) (o := .cells #[.int .i64 0, .int .u64 0] 33 (0, 0)) (by (with_reducible repeat (first | refine blk_drewN ?_ _ | refine blk_drew ?_ | refine blk_alloc ?_ _)); exact BK201.out) hb)
           have n2_ := Aside0.mk (below_step (by repeat (first | (with_reducible first | exact HB.out | apply below_alloc | apply pw_below_drewN | apply below_drew1 | refine below_set ?_ GE201.out) | exact HB.out)) hb)
           have n3_ := Aside0.mk (hbox)
           have n4_ := Aside0.mk ((by rw [hg]; exact (below_size (by repeat (first | (with_reducible first | exact HB.out | apply below_alloc | apply pw_below_drewN | apply below_drew1 | refine below_set ?_ GE201.out) | exact HB.out))) : w.heap.size ≤ gb200))
           have n5_ := Aside0.mk ((by rw [hg]; exact (below_size (by repeat (first | (with_reducible first | exact HB.out | apply below_alloc | apply pw_below_drewN | apply below_drew1 | refine below_set ?_ GE201.out) | exact HB.out))) : w.heap.size ≤ gb200))
           have n6_ := Aside0.mk ((by rw [hg]; exact Nat.ne_of_lt (blk_lt (g := gb201) (o := .cells #[.int .i64 0, .int .u64 0] 33 (0, 0)) (by (with_reducible repeat (first | refine blk_drewN ?_ _ | refine blk_drew ?_ | refine blk_alloc ?_ _)); exact BK201.out)) : gb201 ≠ gb200))
           have n7_ := Aside0.mk ((by rw [hg]; exact Nat.ne_of_gt (blk_lt (g := gb201) (o := .cells #[.int .i64 0, .int .u64 0] 33 (0, 0)) (by (with_reducible repeat (first | refine blk_drewN ?_ _ | refine blk_drew ?_ | refine blk_alloc ?_ _)); exact BK201.out)) : gb200 ≠ gb201))
           clear HO_7
           clear BK201
           clear HB
           have HO_7 := n0_
           have BK201 := n1_
           have HB := n2_
           have BK200 := n3_
           have GW200 := n4_
           have GE200 := n5_
           have NB201_200 := n6_
           have NB200_201 := n7_
           clear n0_ n1_ n2_ n3_ n4_ n5_ n6_ n7_
           clear hb hbox hg
           refine hK.out _ _ ⟨HS0_, HS1_, HS2_, HS3_⟩ (fun hHeld => ?_)
           clear hK K
           refine norm_ (a' := ?_) ?_ ?_
           rotate_left
           ·show Act.put _ (some 9) _ = _
            simp only [Act.put, List.setIfInBounds_toArray, List.set_cons_zero, List.set_cons_succ, i64_w, i32_w]
            rfl
           exact norm_ (by simp only [putAll, Act.put, List.setIfInBounds_toArray, List.set_cons_zero, List.set_cons_succ]) (hCont (gb200, gb201) _ ⟨hHeld, (by (with_reducible repeat (first | apply Kd.R_alloc | apply Kd.R_drewN | apply Kd.R_drew)); exact Kd.R_mono HO_7.out (fun _ hk => ⟨hk.2, hk.1.2⟩)), (by (with_reducible repeat (first | refine blk_drewN ?_ _ | refine blk_drew ?_ | refine blk_alloc ?_ _)); exact BK200.out), (by (with_reducible repeat (first | refine blk_drewN ?_ _ | refine blk_drew ?_ | refine blk_alloc ?_ _)); exact BK201.out), GW200.out, GE200.out, NB201_200.out, NB200_201.out, GW201.out, GE201.out, (by repeat (first | (with_reducible first | exact HB.out | apply below_alloc | apply pw_below_drewN | apply below_drew1 | refine below_set ?_ GE201.out | refine below_set ?_ GE200.out) | exact HB.out))⟩)
         rintro ⟨gb200, gb201⟩ w25 ⟨hS_, h0_, h1_, h2_, h3_, h4_, h5_, h6_, h7_, h8_, h9_⟩
         have n0_ : Aside0 (Kd.R k33 33 w25 w.heap.size (fun k_ => k_ ≠ gb200 ∧ k_ ≠ gb201) (.slice (some ad198) t193.length co22) t193) := ⟨h0_⟩
         have n1_ : Aside0 (w25.heap[gb200]? = some (.cells #[.int .i64 0, .int .u64 0] 33 (0, 0))) := ⟨h1_⟩
         have n2_ : Aside0 (w25.heap[gb201]? = some (.cells #[.int .i64 0, .int .u64 0] 33 (0, 0))) := ⟨h2_⟩
         have n3_ : Aside0 (w.heap.size ≤ gb200) := ⟨h3_⟩
         have n4_ : Aside0 (w.heap.size ≤ gb200) := ⟨h4_⟩
         have n5_ : Aside0 (gb201 ≠ gb200) := ⟨h5_⟩
         have n6_ : Aside0 (gb200 ≠ gb201) := ⟨h6_⟩
         have n7_ : Aside0 (w.heap.size ≤ gb201) := ⟨h7_⟩
         have n8_ : Aside0 (w.heap.size ≤ gb201) := ⟨h8_⟩
         have n9_ : Aside0 (Below w.heap.size w w25) := ⟨h9_⟩
         clear HO_7
         clear HB
         clear h0_ h1_ h2_ h3_ h4_ h5_ h6_ h7_ h8_ h9_
         have HO_7 := n0_
         have BK200 := n1_
         have BK201 := n2_
         have GW200 := n3_
         have GE200 := n4_
         have NB201_200 := n5_
         have NB200_201 := n6_
         have GW201 := n7_
         have GE201 := n8_
         have HB := n9_
         clear n0_ n1_ n2_ n3_ n4_ n5_ n6_ n7_ n8_ n9_
         have hHeld : w25.cell? (ad198.add ((a1).toNat * 2)) = some (.int .i64 ((rd_T33 t193 a1).f0)) ∧ w25.cell? ⟨(ad198.add ((a1).toNat * 2)).block, (ad198.add ((a1).toNat * 2)).off + 1, none⟩ = some (.int .u64 ((rd_T33 t193 a1).f1)) ∧ w25.cell? (ad198.add ((a2).toNat * 2)) = some (.int .i64 ((rd_T33 t193 a2).f0)) ∧ w25.cell? ⟨(ad198.add ((a2).toNat * 2)).block, (ad198.add ((a2).toNat * 2)).off + 1, none⟩ = some (.int .u64 ((rd_T33 t193 a2).f1)) := hS_
         refine norm_ (a' := ?_) ?_ ?_
         rotate_left
         ·simp only [putAll, Act.put, List.setIfInBounds_toArray, List.set_cons_zero, List.set_cons_succ]
          rfl
         refine one_ (i := 10) (N := none) #[true, true, true, true, true, true, true, true, true, true, true, false] rfl rfl (one_of HT_.out (by kernel_rfl)) (by decide) (fun K hK => ?_)
         have hs26 : w25.cell? ⟨gb200, 0, none⟩ = some (.int .i64 0) := (blk_cell BK200.out 0).trans rfl
         have hfs26 := blk_frozen BK200.out 0
         have hns26_1 := NB201_200.out
         have hms26_1 := NB200_201.out
         have hs27 : w25.cell? ⟨gb200, 1, none⟩ = some (.int .u64 0) := (blk_cell BK200.out 1).trans rfl
         have hfs27 := blk_frozen BK200.out 1
         have hns27_1 := NB201_200.out
         have hms27_1 := NB200_201.out
         refine skip_ (w1 := ?_) (by rfl) rfl ?_ ?_
         rotate_left
         ·go_simp
          rfl
         refine hK.out _ _ ⟨((cell_far (p := ⟨gb200, _, none⟩) (by first | exact Kd.own_blk (Kd.R_away HO_7.out (fun _ hk => hk.1)) | (rw [add_block]; exact Kd.own_blk (Kd.R_away HO_7.out (fun _ hk => hk.1))) | (show (Addr.add _ _).block ≠ _; rw [add_block]; exact Kd.own_blk (Kd.R_away HO_7.out (fun _ hk => hk.1))) | (dsimp only; exact Kd.own_blk (Kd.R_away HO_7.out (fun _ hk => hk.1)))) _).trans (((cell_far (p := ⟨gb200, _, none⟩) (by first | exact Kd.own_blk (Kd.R_away HO_7.out (fun _ hk => hk.1)) | (rw [add_block]; exact Kd.own_blk (Kd.R_away HO_7.out (fun _ hk => hk.1))) | (show (Addr.add _ _).block ≠ _; rw [add_block]; exact Kd.own_blk (Kd.R_away HO_7.out (fun _ hk => hk.1))) | (dsimp only; exact Kd.own_blk (Kd.R_away HO_7.out (fun _ hk => hk.1)))) _).trans (hHeld.1)))), ((cell_far (p := ⟨gb200, _, none⟩) (by first | exact Kd.own_blk (Kd.R_away HO_7.out (fun _ hk => hk.1)) | (rw [add_block]; exact Kd.own_blk (Kd.R_away HO_7.out (fun _ hk => hk.1))) | (show (Addr.add _ _).block ≠ _; rw [add_block]; exact Kd.own_blk (Kd.R_away HO_7.out (fun _ hk => hk.1))) | (dsimp only; exact Kd.own_blk (Kd.R_away HO_7.out (fun _ hk => hk.1)))) _).trans (((cell_far (p := ⟨gb200, _, none⟩) (by first | exact Kd.own_blk (Kd.R_away HO_7.out (fun _ hk => hk.1)) | (rw [add_block]; exact Kd.own_blk (Kd.R_away HO_7.out (fun _ hk => hk.1))) | (show (Addr.add _ _).block ≠ _; rw [add_block]; exact Kd.own_blk (Kd.R_away HO_7.out (fun _ hk => hk.1))) | (dsimp only; exact Kd.own_blk (Kd.R_away HO_7.out (fun _ hk => hk.1)))) _).trans (hHeld.2.1)))), ((cell_far (p := ⟨gb200, _, none⟩) (by first | exact Kd.own_blk (Kd.R_away HO_7.out (fun _ hk => hk.1)) | (rw [add_block]; exact Kd.own_blk (Kd.R_away HO_7.out (fun _ hk => hk.1))) | (show (Addr.add _ _).block ≠ _; rw [add_block]; exact Kd.own_blk (Kd.R_away HO_7.out (fun _ hk => hk.1))) | (dsimp only; exact Kd.own_blk (Kd.R_away HO_7.out (fun _ hk => hk.1)))) _).trans (((cell_far (p := ⟨gb200, _, none⟩) (by first | exact Kd.own_blk (Kd.R_away HO_7.out (fun _ hk => hk.1)) | (rw [add_block]; exact Kd.own_blk (Kd.R_away HO_7.out (fun _ hk => hk.1))) | (show (Addr.add _ _).block ≠ _; rw [add_block]; exact Kd.own_blk (Kd.R_away HO_7.out (fun _ hk => hk.1))) | (dsimp only; exact Kd.own_blk (Kd.R_away HO_7.out (fun _ hk => hk.1)))) _).trans (hHeld.2.2.1)))), ((cell_far (p := ⟨gb200, _, none⟩) (by first | exact Kd.own_blk (Kd.R_away HO_7.out (fun _ hk => hk.1)) | (rw [add_block]; exact Kd.own_blk (Kd.R_away HO_7.out (fun _ hk => hk.1))) | (show (Addr.add _ _).block ≠ _; rw [add_block]; exact Kd.own_blk (Kd.R_away HO_7.out (fun _ hk => hk.1))) | (dsimp only; exact Kd.own_blk (Kd.R_away HO_7.out (fun _ hk => hk.1)))) _).trans (((cell_far (p := ⟨gb200, _, none⟩) (by first | exact Kd.own_blk (Kd.R_away HO_7.out (fun _ hk => hk.1)) | (rw [add_block]; exact Kd.own_blk (Kd.R_away HO_7.out (fun _ hk => hk.1))) | (show (Addr.add _ _).block ≠ _; rw [add_block]; exact Kd.own_blk (Kd.R_away HO_7.out (fun _ hk => hk.1))) | (dsimp only; exact Kd.own_blk (Kd.R_away HO_7.out (fun _ hk => hk.1)))) _).trans (hHeld.2.2.2))))⟩ (fun hHeld => ?_)
         clear hK K
         refine one_ (i := 11) (N := none) #[true, true, true, true, true, true, true, true, true, true, true, true] rfl rfl (one_of HT_.out (by kernel_rfl)) (by decide) (fun K hK => ?_)
         have hs28 : w25.cell? ⟨gb201, 0, none⟩ = some (.int .i64 0) := (blk_cell BK201.out 0).trans rfl
         have hfs28 := blk_frozen BK201.out 0
         have hns28_0 := NB200_201.out
         have hms28_0 := NB201_200.out
         have hs29 : w25.cell? ⟨gb201, 1, none⟩ = some (.int .u64 0) := (blk_cell BK201.out 1).trans rfl
         have hfs29 := blk_frozen BK201.out 1
         have hns29_0 := NB200_201.out
         have hms29_0 := NB201_200.out
         refine skip_ (w1 := ?_) (by rfl) rfl ?_ ?_
         rotate_left
         ·go_simp
          rfl
         refine hK.out _ _ ⟨((cell_far (p := ⟨gb201, _, none⟩) (by first | exact Kd.own_blk (Kd.R_away HO_7.out (fun _ hk => hk.2)) | (rw [add_block]; exact Kd.own_blk (Kd.R_away HO_7.out (fun _ hk => hk.2))) | (show (Addr.add _ _).block ≠ _; rw [add_block]; exact Kd.own_blk (Kd.R_away HO_7.out (fun _ hk => hk.2))) | (dsimp only; exact Kd.own_blk (Kd.R_away HO_7.out (fun _ hk => hk.2)))) _).trans (((cell_far (p := ⟨gb201, _, none⟩) (by first | exact Kd.own_blk (Kd.R_away HO_7.out (fun _ hk => hk.2)) | (rw [add_block]; exact Kd.own_blk (Kd.R_away HO_7.out (fun _ hk => hk.2))) | (show (Addr.add _ _).block ≠ _; rw [add_block]; exact Kd.own_blk (Kd.R_away HO_7.out (fun _ hk => hk.2))) | (dsimp only; exact Kd.own_blk (Kd.R_away HO_7.out (fun _ hk => hk.2)))) _).trans (hHeld.1)))), ((cell_far (p := ⟨gb201, _, none⟩) (by first | exact Kd.own_blk (Kd.R_away HO_7.out (fun _ hk => hk.2)) | (rw [add_block]; exact Kd.own_blk (Kd.R_away HO_7.out (fun _ hk => hk.2))) | (show (Addr.add _ _).block ≠ _; rw [add_block]; exact Kd.own_blk (Kd.R_away HO_7.out (fun _ hk => hk.2))) | (dsimp only; exact Kd.own_blk (Kd.R_away HO_7.out (fun _ hk => hk.2)))) _).trans (((cell_far (p := ⟨gb201, _, none⟩) (by first | exact Kd.own_blk (Kd.R_away HO_7.out (fun _ hk => hk.2)) | (rw [add_block]; exact Kd.own_blk (Kd.R_away HO_7.out (fun _ hk => hk.2))) | (show (Addr.add _ _).block ≠ _; rw [add_block]; exact Kd.own_blk (Kd.R_away HO_7.out (fun _ hk => hk.2))) | (dsimp only; exact Kd.own_blk (Kd.R_away HO_7.out (fun _ hk => hk.2)))) _).trans (hHeld.2.1)))), ((cell_far (p := ⟨gb201, _, none⟩) (by first | exact Kd.own_blk (Kd.R_away HO_7.out (fun _ hk => hk.2)) | (rw [add_block]; exact Kd.own_blk (Kd.R_away HO_7.out (fun _ hk => hk.2))) | (show (Addr.add _ _).block ≠ _; rw [add_block]; exact Kd.own_blk (Kd.R_away HO_7.out (fun _ hk => hk.2))) | (dsimp only; exact Kd.own_blk (Kd.R_away HO_7.out (fun _ hk => hk.2)))) _).trans (((cell_far (p := ⟨gb201, _, none⟩) (by first | exact Kd.own_blk (Kd.R_away HO_7.out (fun _ hk => hk.2)) | (rw [add_block]; exact Kd.own_blk (Kd.R_away HO_7.out (fun _ hk => hk.2))) | (show (Addr.add _ _).block ≠ _; rw [add_block]; exact Kd.own_blk (Kd.R_away HO_7.out (fun _ hk => hk.2))) | (dsimp only; exact Kd.own_blk (Kd.R_away HO_7.out (fun _ hk => hk.2)))) _).trans (hHeld.2.2.1)))), ((cell_far (p := ⟨gb201, _, none⟩) (by first | exact Kd.own_blk (Kd.R_away HO_7.out (fun _ hk => hk.2)) | (rw [add_block]; exact Kd.own_blk (Kd.R_away HO_7.out (fun _ hk => hk.2))) | (show (Addr.add _ _).block ≠ _; rw [add_block]; exact Kd.own_blk (Kd.R_away HO_7.out (fun _ hk => hk.2))) | (dsimp only; exact Kd.own_blk (Kd.R_away HO_7.out (fun _ hk => hk.2)))) _).trans (((cell_far (p := ⟨gb201, _, none⟩) (by first | exact Kd.own_blk (Kd.R_away HO_7.out (fun _ hk => hk.2)) | (rw [add_block]; exact Kd.own_blk (Kd.R_away HO_7.out (fun _ hk => hk.2))) | (show (Addr.add _ _).block ≠ _; rw [add_block]; exact Kd.own_blk (Kd.R_away HO_7.out (fun _ hk => hk.2))) | (dsimp only; exact Kd.own_blk (Kd.R_away HO_7.out (fun _ hk => hk.2)))) _).trans (hHeld.2.2.2))))⟩ (fun hHeld => ?_)
         clear hK K
         refine done_ (done_of HT_.out (by kernel_rfl)) ?_
         go_upto_region 7 with (fail)
         go_cut [60] (fun v60 wc => ∃ (kq : Nat) (x60_19 : Bool), v60 = .bool x60_19 ∧ Aside0 (haystacklaw11_HuffApart.j1 kq a1 a2 x60_19 ((rd_T33 t193 a1).f0) ((rd_T33 t193 a1).f1) ((rd_T33 t193 a2).f0) ((rd_T33 t193 a2).f1) = some r) ∧ Aside0 (kq ≤ kj7) ∧ Aside0 (wc.heap[gb200]? = some (.cells #[.int .i64 ((rd_T33 t193 a1).f0), .int .u64 ((rd_T33 t193 a1).f1)] 33 (0, 0))) ∧ Aside0 (wc.heap[gb201]? = some (.cells #[.int .i64 ((rd_T33 t193 a2).f0), .int .u64 ((rd_T33 t193 a2).f1)] 33 (0, 0))) ∧ Aside0 (Below w.heap.size w wc))
         case first =>
          have H := HC20.out
          clear HC20
          by_cases c30 : a1 = a2
          ·rw [if_pos c30] at H
           have c30b0 : (a1 == a2) = true := beq_iff_eq.mpr c30
           have c30b1 : (a1 != a2) = false := bne_eq_false_iff_eq.mpr c30
           clear c30
           (first | rw [c30b0] | (simp only [i64_w, i32_w]; rw [c30b0]) | skip)
           have H' := Aside0.mk H
           clear H
           go_wp2
           go_meet
           case rel => exact ⟨_, (true), (by first | rfl | (simp; done) | (simp [*]; done)), H', ⟨by have := HJ7.out; first | omega | exact Nat.le_refl _⟩, ⟨by (with_reducible repeat (first | refine blk_drewN ?_ _ | refine blk_drew ?_ | refine blk_alloc ?_ _)); refine blk_far ?_ NB200_201.out _; (with_reducible repeat (first | refine blk_drewN ?_ _ | refine blk_drew ?_ | refine blk_alloc ?_ _)); refine blk_far ?_ NB200_201.out _; (with_reducible repeat (first | refine blk_drewN ?_ _ | refine blk_drew ?_ | refine blk_alloc ?_ _)); refine blk_put (cs := #[.int .i64 ((rd_T33 t193 a1).f0), .int .u64 0]) ?_ 1 _ rfl; (with_reducible repeat (first | refine blk_drewN ?_ _ | refine blk_drew ?_ | refine blk_alloc ?_ _)); refine blk_put (cs := #[.int .i64 0, .int .u64 0]) ?_ 0 _ rfl; (with_reducible repeat (first | refine blk_drewN ?_ _ | refine blk_drew ?_ | refine blk_alloc ?_ _)); exact BK200.out⟩, ⟨by (with_reducible repeat (first | refine blk_drewN ?_ _ | refine blk_drew ?_ | refine blk_alloc ?_ _)); refine blk_put (cs := #[.int .i64 ((rd_T33 t193 a2).f0), .int .u64 0]) ?_ 1 _ rfl; (with_reducible repeat (first | refine blk_drewN ?_ _ | refine blk_drew ?_ | refine blk_alloc ?_ _)); refine blk_put (cs := #[.int .i64 0, .int .u64 0]) ?_ 0 _ rfl; (with_reducible repeat (first | refine blk_drewN ?_ _ | refine blk_drew ?_ | refine blk_alloc ?_ _)); refine blk_far ?_ NB201_200.out _; (with_reducible repeat (first | refine blk_drewN ?_ _ | refine blk_drew ?_ | refine blk_alloc ?_ _)); refine blk_far ?_ NB201_200.out _; (with_reducible repeat (first | refine blk_drewN ?_ _ | refine blk_drew ?_ | refine blk_alloc ?_ _)); exact BK201.out⟩, ⟨by repeat (first | (with_reducible first | exact HB.out | apply below_alloc | apply pw_below_drewN | apply below_drew1 | refine below_set ?_ GE200.out | refine below_set ?_ GE201.out) | exact HB.out)⟩⟩
          ·rw [if_neg c30] at H
           have c30b0 : (a1 == a2) = false := beq_eq_false_iff_ne.mpr c30
           have c30b1 : (a1 != a2) = true := bne_iff_ne.mpr c30
           (first | rw [c30b0] | (simp only [i64_w, i32_w]; rw [c30b0]) | skip)
           by_cases c31 : ((rd_T33 t193 a1).f0) = 0
           ·rw [if_pos c31] at H
            have c31b0 : (((rd_T33 t193 a1).f0) == 0) = true := beq_iff_eq.mpr c31
            have c31b1 : (((rd_T33 t193 a1).f0) != 0) = false := bne_eq_false_iff_eq.mpr c31
            clear c31
            have H' := Aside0.mk H
            clear H
            have hnb32 := NB200_201.out
            have hnc32 := NB201_200.out
            have hcz33_0 : w25.cell? ⟨gb200, 0, none⟩ = some (.int .i64 0) := (blk_cell BK200.out 0).trans rfl
            have hcz33_1 : w25.cell? ⟨gb200, 1, none⟩ = some (.int .u64 0) := (blk_cell BK200.out 1).trans rfl
            have hfz33_0 := blk_frozen BK200.out 0
            have hfz33_1 := blk_frozen BK200.out 1
            go_wp2
            go_meet
            case rel => exact ⟨_, (true), (by first | rfl | (simp; done) | (simp [*]; done)), H', ⟨by have := HJ7.out; first | omega | exact Nat.le_refl _⟩, ⟨by (with_reducible repeat (first | refine blk_drewN ?_ _ | refine blk_drew ?_ | refine blk_alloc ?_ _)); refine blk_far ?_ NB200_201.out _; (with_reducible repeat (first | refine blk_drewN ?_ _ | refine blk_drew ?_ | refine blk_alloc ?_ _)); refine blk_far ?_ NB200_201.out _; (with_reducible repeat (first | refine blk_drewN ?_ _ | refine blk_drew ?_ | refine blk_alloc ?_ _)); refine blk_put (cs := #[.int .i64 ((rd_T33 t193 a1).f0), .int .u64 0]) ?_ 1 _ rfl; (with_reducible repeat (first | refine blk_drewN ?_ _ | refine blk_drew ?_ | refine blk_alloc ?_ _)); refine blk_put (cs := #[.int .i64 0, .int .u64 0]) ?_ 0 _ rfl; (with_reducible repeat (first | refine blk_drewN ?_ _ | refine blk_drew ?_ | refine blk_alloc ?_ _)); exact BK200.out⟩, ⟨by (with_reducible repeat (first | refine blk_drewN ?_ _ | refine blk_drew ?_ | refine blk_alloc ?_ _)); refine blk_put (cs := #[.int .i64 ((rd_T33 t193 a2).f0), .int .u64 0]) ?_ 1 _ rfl; (with_reducible repeat (first | refine blk_drewN ?_ _ | refine blk_drew ?_ | refine blk_alloc ?_ _)); refine blk_put (cs := #[.int .i64 0, .int .u64 0]) ?_ 0 _ rfl; (with_reducible repeat (first | refine blk_drewN ?_ _ | refine blk_drew ?_ | refine blk_alloc ?_ _)); refine blk_far ?_ NB201_200.out _; (with_reducible repeat (first | refine blk_drewN ?_ _ | refine blk_drew ?_ | refine blk_alloc ?_ _)); refine blk_far ?_ NB201_200.out _; (with_reducible repeat (first | refine blk_drewN ?_ _ | refine blk_drew ?_ | refine blk_alloc ?_ _)); exact BK201.out⟩, ⟨by repeat (first | (with_reducible first | exact HB.out | apply below_alloc | apply pw_below_drewN | apply below_drew1 | refine below_set ?_ GE200.out | refine below_set ?_ GE201.out) | exact HB.out)⟩⟩
           ·rw [if_neg c31] at H
            have c31b0 : (((rd_T33 t193 a1).f0) == 0) = false := beq_eq_false_iff_ne.mpr c31
            have c31b1 : (((rd_T33 t193 a1).f0) != 0) = true := bne_iff_ne.mpr c31
            by_cases c34 : ((rd_T33 t193 a2).f0) = 0
            ·rw [if_pos c34] at H
             have c34b0 : (((rd_T33 t193 a2).f0) == 0) = true := beq_iff_eq.mpr c34
             have c34b1 : (((rd_T33 t193 a2).f0) != 0) = false := bne_eq_false_iff_eq.mpr c34
             clear c34
             have H' := Aside0.mk H
             clear H
             have hnb35 := NB200_201.out
             have hnc35 := NB201_200.out
             have hcz36_0 : w25.cell? ⟨gb200, 0, none⟩ = some (.int .i64 0) := (blk_cell BK200.out 0).trans rfl
             have hcz36_1 : w25.cell? ⟨gb200, 1, none⟩ = some (.int .u64 0) := (blk_cell BK200.out 1).trans rfl
             have hfz36_0 := blk_frozen BK200.out 0
             have hfz36_1 := blk_frozen BK200.out 1
             have hcz37_0 : w25.cell? ⟨gb201, 0, none⟩ = some (.int .i64 0) := (blk_cell BK201.out 0).trans rfl
             have hcz37_1 : w25.cell? ⟨gb201, 1, none⟩ = some (.int .u64 0) := (blk_cell BK201.out 1).trans rfl
             have hfz37_0 := blk_frozen BK201.out 0
             have hfz37_1 := blk_frozen BK201.out 1
             go_wp2
             go_meet
             case rel => exact ⟨_, (true), (by first | rfl | (simp; done) | (simp [*]; done)), H', ⟨by have := HJ7.out; first | omega | exact Nat.le_refl _⟩, ⟨by (with_reducible repeat (first | refine blk_drewN ?_ _ | refine blk_drew ?_ | refine blk_alloc ?_ _)); refine blk_far ?_ NB200_201.out _; (with_reducible repeat (first | refine blk_drewN ?_ _ | refine blk_drew ?_ | refine blk_alloc ?_ _)); refine blk_far ?_ NB200_201.out _; (with_reducible repeat (first | refine blk_drewN ?_ _ | refine blk_drew ?_ | refine blk_alloc ?_ _)); refine blk_put (cs := #[.int .i64 ((rd_T33 t193 a1).f0), .int .u64 0]) ?_ 1 _ rfl; (with_reducible repeat (first | refine blk_drewN ?_ _ | refine blk_drew ?_ | refine blk_alloc ?_ _)); refine blk_put (cs := #[.int .i64 0, .int .u64 0]) ?_ 0 _ rfl; (with_reducible repeat (first | refine blk_drewN ?_ _ | refine blk_drew ?_ | refine blk_alloc ?_ _)); exact BK200.out⟩, ⟨by (with_reducible repeat (first | refine blk_drewN ?_ _ | refine blk_drew ?_ | refine blk_alloc ?_ _)); refine blk_put (cs := #[.int .i64 ((rd_T33 t193 a2).f0), .int .u64 0]) ?_ 1 _ rfl; (with_reducible repeat (first | refine blk_drewN ?_ _ | refine blk_drew ?_ | refine blk_alloc ?_ _)); refine blk_put (cs := #[.int .i64 0, .int .u64 0]) ?_ 0 _ rfl; (with_reducible repeat (first | refine blk_drewN ?_ _ | refine blk_drew ?_ | refine blk_alloc ?_ _)); refine blk_far ?_ NB201_200.out _; (with_reducible repeat (first | refine blk_drewN ?_ _ | refine blk_drew ?_ | refine blk_alloc ?_ _)); refine blk_far ?_ NB201_200.out _; (with_reducible repeat (first | refine blk_drewN ?_ _ | refine blk_drew ?_ | refine blk_alloc ?_ _)); exact BK201.out⟩, ⟨by repeat (first | (with_reducible first | exact HB.out | apply below_alloc | apply pw_below_drewN | apply below_drew1 | refine below_set ?_ GE200.out | refine below_set ?_ GE201.out) | exact HB.out)⟩⟩
            ·rw [if_neg c34] at H
             have c34b0 : (((rd_T33 t193 a2).f0) == 0) = false := beq_eq_false_iff_ne.mpr c34
             have c34b1 : (((rd_T33 t193 a2).f0) != 0) = true := bne_iff_ne.mpr c34
             have H' := Aside0.mk H
             clear H
             have hnb38 := NB200_201.out
             have hnc38 := NB201_200.out
             have hcz39_0 : w25.cell? ⟨gb200, 0, none⟩ = some (.int .i64 0) := (blk_cell BK200.out 0).trans rfl
             have hcz39_1 : w25.cell? ⟨gb200, 1, none⟩ = some (.int .u64 0) := (blk_cell BK200.out 1).trans rfl
             have hfz39_0 := blk_frozen BK200.out 0
             have hfz39_1 := blk_frozen BK200.out 1
             have hcz40_0 : w25.cell? ⟨gb201, 0, none⟩ = some (.int .i64 0) := (blk_cell BK201.out 0).trans rfl
             have hcz40_1 : w25.cell? ⟨gb201, 1, none⟩ = some (.int .u64 0) := (blk_cell BK201.out 1).trans rfl
             have hfz40_0 := blk_frozen BK201.out 0
             have hfz40_1 := blk_frozen BK201.out 1
             go_wp2
             go_meet
             case rel => exact ⟨_, (decide (((rd_T33 t193 a1).f0) > ((rd_T33 t193 a2).f0))), (by first | rfl | (simp; done) | (simp [*]; done)), H', ⟨by have := HJ7.out; first | omega | exact Nat.le_refl _⟩, ⟨by (with_reducible repeat (first | refine blk_drewN ?_ _ | refine blk_drew ?_ | refine blk_alloc ?_ _)); refine blk_far ?_ NB200_201.out _; (with_reducible repeat (first | refine blk_drewN ?_ _ | refine blk_drew ?_ | refine blk_alloc ?_ _)); refine blk_far ?_ NB200_201.out _; (with_reducible repeat (first | refine blk_drewN ?_ _ | refine blk_drew ?_ | refine blk_alloc ?_ _)); refine blk_put (cs := #[.int .i64 ((rd_T33 t193 a1).f0), .int .u64 0]) ?_ 1 _ rfl; (with_reducible repeat (first | refine blk_drewN ?_ _ | refine blk_drew ?_ | refine blk_alloc ?_ _)); refine blk_put (cs := #[.int .i64 0, .int .u64 0]) ?_ 0 _ rfl; (with_reducible repeat (first | refine blk_drewN ?_ _ | refine blk_drew ?_ | refine blk_alloc ?_ _)); exact BK200.out⟩, ⟨by (with_reducible repeat (first | refine blk_drewN ?_ _ | refine blk_drew ?_ | refine blk_alloc ?_ _)); refine blk_put (cs := #[.int .i64 ((rd_T33 t193 a2).f0), .int .u64 0]) ?_ 1 _ rfl; (with_reducible repeat (first | refine blk_drewN ?_ _ | refine blk_drew ?_ | refine blk_alloc ?_ _)); refine blk_put (cs := #[.int .i64 0, .int .u64 0]) ?_ 0 _ rfl; (with_reducible repeat (first | refine blk_drewN ?_ _ | refine blk_drew ?_ | refine blk_alloc ?_ _)); refine blk_far ?_ NB201_200.out _; (with_reducible repeat (first | refine blk_drewN ?_ _ | refine blk_drew ?_ | refine blk_alloc ?_ _)); refine blk_far ?_ NB201_200.out _; (with_reducible repeat (first | refine blk_drewN ?_ _ | refine blk_drew ?_ | refine blk_alloc ?_ _)); exact BK201.out⟩, ⟨by repeat (first | (with_reducible first | exact HB.out | apply below_alloc | apply pw_below_drewN | apply below_drew1 | refine below_set ?_ GE200.out | refine below_set ?_ GE201.out) | exact HB.out)⟩⟩
         case rest =>
          clear HC20
          try clear c1
          try clear p1
          try clear q1
          try clear hx1
          try clear p2
          try clear c3
          try clear c4
          try clear c4b0
          try clear c4b1
          try clear c8
          try clear c10
          try clear c10b0
          try clear c10b1
          try clear c12
          try clear c13
          try clear c13b0
          try clear c13b1
          try clear c16
          try clear c16b0
          try clear c17
          try clear c17b0
          try clear c18
          try clear c18b0
          try clear c19
          try clear c19b0
          try clear p19
          try clear q19
          try clear hx19
          try clear c30
          try clear c30b0
          try clear c30b1
          try clear c31
          try clear c31b0
          try clear c31b1
          try clear c32
          try clear c34
          try clear c34b0
          try clear c34b1
          try clear c35
          try clear c38
          try clear hcz33_0
          try clear hcz33_1
          try clear hcz36_0
          try clear hcz36_1
          try clear hcz37_0
          try clear hcz37_1
          try clear hcz39_0
          try clear hcz39_1
          try clear hcz40_0
          try clear hcz40_1
          try clear hfz33_0
          try clear hfz33_1
          try clear hfz36_0
          try clear hfz36_1
          try clear hfz37_0
          try clear hfz37_1
          try clear hfz39_0
          try clear hfz39_1
          try clear hfz40_0
          try clear hfz40_1
          try clear hx198_0
          try clear hx198_1
          try clear hx199_0
          try clear hx199_1
          try clear p198
          try clear p199
          try clear p2
          try clear q198
          try clear q199
          obtain ⟨kq, x60_19, rfl, HA, HJ19, BK200, BK201, HB⟩ := hcut
          cases kq with
          | zero => exact absurd HA.out (by simp [haystacklaw11_HuffApart.j1])
          | succ kj19 =>
           have H := HA.out
           clear HA
           simp only [haystacklaw11_HuffApart.j1] at H
           by_cases c41 : x60_19 = true
           ·subst c41
            have H1 : ((haystacklaw11_heads.f kj19).bind fun t202 => (some t202)) = some r := by rw [if_pos rfl] at H; exact H
            clear H
            have H := H1
            clear H1
            replace H := Option.bind_eq_some_iff.mp H
            obtain ⟨t202, A420, H⟩ := H
            replace H : (some t202) = some r := H
            have A42 := Aside0.mk A420
            clear A420
            obtain rfl := Option.some.inj H
            go_wp2_with (first | ((with_reducible refine gate_callee (f := 8) rfl ?_); refine goesL_ (some 61) rfl rfl Try.func8 (by kernel_rfl) rfl #[] rfl (by (try simp only [List.map_toArray, List.map_cons, List.map_nil]); first | done | rfl | (simp only [List.length_drop, List.length_take]; rfl)) ?_; (with_reducible refine (haystacklaw11_heads.calls kj19  t202 _ A42.out).mono ?_); rintro e w43 ⟨rfl, hb⟩; refine ⟨_, rfl, ?_⟩; have n0_ := Aside0.mk (blk_below (g := gb200) (o := .cells #[.int .i64 ((rd_T33 t193 a1).f0), .int .u64 ((rd_T33 t193 a1).f1)] 33 (0, 0)) (by (with_reducible repeat (first | refine blk_drewN ?_ _ | refine blk_drew ?_ | refine blk_alloc ?_ _)); exact BK200.out) hb); have n1_ := Aside0.mk (blk_below (g := gb201) (o := .cells #[.int .i64 ((rd_T33 t193 a2).f0), .int .u64 ((rd_T33 t193 a2).f1)] 33 (0, 0)) (by (with_reducible repeat (first | refine blk_drewN ?_ _ | refine blk_drew ?_ | refine blk_alloc ?_ _)); exact BK201.out) hb); have n2_ := Aside0.mk (below_step (by repeat (first | (with_reducible first | exact HB.out | apply below_alloc | apply pw_below_drewN | apply below_drew1 | refine below_set ?_ GE200.out | refine below_set ?_ GE201.out) | exact HB.out)) hb); clear BK200; clear BK201; clear HB; have BK200 := n0_; have BK201 := n1_; have HB := n2_; clear n0_ n1_ n2_; (try clear hb); (try clear hb2); (try clear hk); (try clear hi)))
            go_ret
            exact ⟨by first | rfl | (simp [errW_none, errW_some] <;> rfl) | (simp [*, errW_none, errW_some] <;> rfl), by repeat (first | (with_reducible first | exact HB.out | apply below_alloc | apply pw_below_drewN | apply below_drew1 | refine below_set ?_ GE200.out | refine below_set ?_ GE201.out) | exact HB.out)⟩
           ·replace c41 := Bool.eq_false_iff.mpr c41
            subst c41
            have H1 : (if 0 ≤ (IntKind.u64.wrap (wrap64 (((rd_T33 t193 a2).f0) - ((rd_T33 t193 a1).f0)))) then (if (shr .u64 ((rd_T33 t193 a2).f1) (IntKind.u64.wrap (wrap64 (((rd_T33 t193 a2).f0) - ((rd_T33 t193 a1).f0))))) = ((rd_T33 t193 a1).f1) then (none) else (if ((rd_T33 t193 a1).f0) < ((rd_T33 t193 a2).f0) then (if (true == (decide (((rd_T33 t193 a1).f1) < (shr .u64 ((rd_T33 t193 a2).f1) (IntKind.u64.wrap (wrap64 (((rd_T33 t193 a2).f0) - ((rd_T33 t193 a1).f0)))))))) = true then (if 0 ≤ (IntKind.u64.wrap (((rd_T33 t193 a1).f0))) then (if (shr .u64 ((rd_T33 t193 a1).f1) (IntKind.u64.wrap (((rd_T33 t193 a1).f0)))) = 0 then ((haystacklaw11_heads.f kj19).bind fun t203 => (some t203)) else (none)) else (none)) else (none)) else (if ((decide (a1 < a2)) == (decide (((rd_T33 t193 a1).f1) < (shr .u64 ((rd_T33 t193 a2).f1) (IntKind.u64.wrap (wrap64 (((rd_T33 t193 a2).f0) - ((rd_T33 t193 a1).f0)))))))) = true then (if 0 ≤ (IntKind.u64.wrap (((rd_T33 t193 a1).f0))) then (if (shr .u64 ((rd_T33 t193 a1).f1) (IntKind.u64.wrap (((rd_T33 t193 a1).f0)))) = 0 then ((haystacklaw11_heads.f kj19).bind fun t204 => (some t204)) else (none)) else (none)) else (none)))) else (none)) = some r := by rw [if_neg (show ¬ (false = true) by decide)] at H; exact H
            clear H
            have H := H1
            clear H1
            obtain ⟨ji44, hji44⟩ : ∃ j_ : Int, (IntKind.u64.wrap (wrap64 (((rd_T33 t193 a2).f0) - ((rd_T33 t193 a1).f0)))) = j_ := ⟨_, rfl⟩
            replace H : (if 0 ≤ (ji44) then (if (shr .u64 ((rd_T33 t193 a2).f1) (ji44)) = ((rd_T33 t193 a1).f1) then (none) else (if ((rd_T33 t193 a1).f0) < ((rd_T33 t193 a2).f0) then (if (true == (decide (((rd_T33 t193 a1).f1) < (shr .u64 ((rd_T33 t193 a2).f1) (ji44))))) = true then (if 0 ≤ (IntKind.u64.wrap (((rd_T33 t193 a1).f0))) then (if (shr .u64 ((rd_T33 t193 a1).f1) (IntKind.u64.wrap (((rd_T33 t193 a1).f0)))) = 0 then ((haystacklaw11_heads.f kj19).bind fun t203 => (some t203)) else (none)) else (none)) else (none)) else (if ((decide (a1 < a2)) == (decide (((rd_T33 t193 a1).f1) < (shr .u64 ((rd_T33 t193 a2).f1) (ji44))))) = true then (if 0 ≤ (IntKind.u64.wrap (((rd_T33 t193 a1).f0))) then (if (shr .u64 ((rd_T33 t193 a1).f1) (IntKind.u64.wrap (((rd_T33 t193 a1).f0)))) = 0 then ((haystacklaw11_heads.f kj19).bind fun t204 => (some t204)) else (none)) else (none)) else (none)))) else (none)) = some r := by first | (rw [hji44] at H; exact H) | (simp only [hji44] at H ⊢; exact H)
            by_cases c45 : 0 ≤ (ji44)
            ·rw [if_pos c45] at H
             have c45b0 := eq_true c45
             have c45b1 : decide (0 ≤ (ji44)) = true := decide_eq_true c45
             clear c45
             obtain ⟨ji46, hji46⟩ : ∃ j_ : Int, (shr .u64 ((rd_T33 t193 a2).f1) (ji44)) = j_ := ⟨_, rfl⟩
             replace H : (if (ji46) = ((rd_T33 t193 a1).f1) then (none) else (if ((rd_T33 t193 a1).f0) < ((rd_T33 t193 a2).f0) then (if (true == (decide (((rd_T33 t193 a1).f1) < (ji46)))) = true then (if 0 ≤ (IntKind.u64.wrap (((rd_T33 t193 a1).f0))) then (if (shr .u64 ((rd_T33 t193 a1).f1) (IntKind.u64.wrap (((rd_T33 t193 a1).f0)))) = 0 then ((haystacklaw11_heads.f kj19).bind fun t203 => (some t203)) else (none)) else (none)) else (none)) else (if ((decide (a1 < a2)) == (decide (((rd_T33 t193 a1).f1) < (ji46)))) = true then (if 0 ≤ (IntKind.u64.wrap (((rd_T33 t193 a1).f0))) then (if (shr .u64 ((rd_T33 t193 a1).f1) (IntKind.u64.wrap (((rd_T33 t193 a1).f0)))) = 0 then ((haystacklaw11_heads.f kj19).bind fun t204 => (some t204)) else (none)) else (none)) else (none)))) = some r := by first | (rw [hji46] at H; exact H) | (simp only [hji46] at H ⊢; exact H)
             have hji46_ : (((rd_T33 t193 a2).f1) / 2 ^ min (ji44).toNat 64) = ji46 := hji46
             have hji46z : (ji44) ≤ 64 → (((rd_T33 t193 a2).f1) / 2 ^ (ji44).toNat) = ji46 := shr_small hji46
             by_cases c47 : (ji46) = ((rd_T33 t193 a1).f1)
             ·rw [if_pos c47] at H
              exact absurd H (by simp)
             ·rw [if_neg c47] at H
              have c47b0 : ((ji46) == ((rd_T33 t193 a1).f1)) = false := beq_eq_false_iff_ne.mpr c47
              have c47b1 : ((ji46) != ((rd_T33 t193 a1).f1)) = true := bne_iff_ne.mpr c47
              by_cases c48 : ((rd_T33 t193 a1).f0) < ((rd_T33 t193 a2).f0)
              ·rw [if_pos c48] at H
               have c48b0 : decide (((rd_T33 t193 a1).f0) < ((rd_T33 t193 a2).f0)) = true := decide_eq_true c48
               clear c48
               by_cases c49 : (true == (decide (((rd_T33 t193 a1).f1) < (ji46)))) = true
               ·rw [if_pos c49] at H
                have c49b0 : (true == (decide (((rd_T33 t193 a1).f1) < (ji46)))) = true := c49
                (try (have c49b1 : decide (true = (decide (((rd_T33 t193 a1).f1) < (ji46)))) = true := by simpa using c49))
                (try (have c49b2 : (true == (decide (((rd_T33 t193 a1).f1) < (ji46)))) = true := by simpa using c49))
                clear c49
                obtain ⟨ji50, hji50⟩ : ∃ j_ : Int, (IntKind.u64.wrap (((rd_T33 t193 a1).f0))) = j_ := ⟨_, rfl⟩
                replace H : (if 0 ≤ (ji50) then (if (shr .u64 ((rd_T33 t193 a1).f1) (ji50)) = 0 then ((haystacklaw11_heads.f kj19).bind fun t203 => (some t203)) else (none)) else (none)) = some r := by first | (rw [hji50] at H; exact H) | (simp only [hji50] at H ⊢; exact H)
                by_cases c51 : 0 ≤ (ji50)
                ·rw [if_pos c51] at H
                 have c51b0 := eq_true c51
                 have c51b1 : decide (0 ≤ (ji50)) = true := decide_eq_true c51
                 clear c51
                 obtain ⟨ji52, hji52⟩ : ∃ j_ : Int, (shr .u64 ((rd_T33 t193 a1).f1) (ji50)) = j_ := ⟨_, rfl⟩
                 replace H : (if (ji52) = 0 then ((haystacklaw11_heads.f kj19).bind fun t203 => (some t203)) else (none)) = some r := by first | (rw [hji52] at H; exact H) | (simp only [hji52] at H ⊢; exact H)
                 have hji52_ : (((rd_T33 t193 a1).f1) / 2 ^ min (ji50).toNat 64) = ji52 := hji52
                 have hji52z : (ji50) ≤ 64 → (((rd_T33 t193 a1).f1) / 2 ^ (ji50).toNat) = ji52 := shr_small hji52
                 by_cases c53 : (ji52) = 0
                 ·rw [if_pos c53] at H
                  have c53b0 : ((ji52) == 0) = true := beq_iff_eq.mpr c53
                  have c53b1 : ((ji52) != 0) = false := bne_eq_false_iff_eq.mpr c53
                  clear c53
                  replace H := Option.bind_eq_some_iff.mp H
                  obtain ⟨t203, A540, H⟩ := H
                  replace H : (some t203) = some r := H
                  have A54 := Aside0.mk A540
                  clear A540
                  obtain rfl := Option.some.inj H
                  have hnb55 := NB201_200.out
                  have hnc55 := NB200_201.out
                  have hcz56_0 : wc.cell? ⟨gb201, 0, none⟩ = some (.int .i64 ((rd_T33 t193 a2).f0)) := (blk_cell BK201.out 0).trans rfl
                  have hcz56_1 : wc.cell? ⟨gb201, 1, none⟩ = some (.int .u64 ((rd_T33 t193 a2).f1)) := (blk_cell BK201.out 1).trans rfl
                  have hfz56_0 := blk_frozen BK201.out 0
                  have hfz56_1 := blk_frozen BK201.out 1
                  have hcz57_0 : wc.cell? ⟨gb200, 0, none⟩ = some (.int .i64 ((rd_T33 t193 a1).f0)) := (blk_cell BK200.out 0).trans rfl
                  have hcz57_1 : wc.cell? ⟨gb200, 1, none⟩ = some (.int .u64 ((rd_T33 t193 a1).f1)) := (blk_cell BK200.out 1).trans rfl
                  have hfz57_0 := blk_frozen BK200.out 0
                  have hfz57_1 := blk_frozen BK200.out 1
                  go_wp2_with (first | (go_at_call 8; (with_reducible refine (haystacklaw11_heads.calls kj19  t203 _ A54.out).mono ?_); rintro e w58 ⟨rfl, hb⟩; have n0_ := Aside0.mk (blk_below (g := gb200) (o := .cells #[.int .i64 ((rd_T33 t193 a1).f0), .int .u64 ((rd_T33 t193 a1).f1)] 33 (0, 0)) (by (with_reducible repeat (first | refine blk_drewN ?_ _ | refine blk_drew ?_ | refine blk_alloc ?_ _)); exact BK200.out) hb); have n1_ := Aside0.mk (blk_below (g := gb201) (o := .cells #[.int .i64 ((rd_T33 t193 a2).f0), .int .u64 ((rd_T33 t193 a2).f1)] 33 (0, 0)) (by (with_reducible repeat (first | refine blk_drewN ?_ _ | refine blk_drew ?_ | refine blk_alloc ?_ _)); exact BK201.out) hb); have n2_ := Aside0.mk (below_step (by repeat (first | (with_reducible first | exact HB.out | apply below_alloc | apply pw_below_drewN | apply below_drew1 | refine below_set ?_ GE200.out | refine below_set ?_ GE201.out) | exact HB.out)) hb); clear BK200; clear BK201; clear HB; have BK200 := n0_; have BK201 := n1_; have HB := n2_; clear n0_ n1_ n2_; (try clear hb); (try clear hb2); (try clear hk); (try clear hi)))
                  go_ret
                  exact ⟨by first | rfl | (simp [errW_none, errW_some] <;> rfl) | (simp only [← hji44, ← hji46, ← hji50, ← hji52]; first | rfl | (simp [errW_none, errW_some] <;> rfl)) | (simp [*, errW_none, errW_some] <;> rfl), by repeat (first | (with_reducible first | exact HB.out | apply below_alloc | apply pw_below_drewN | apply below_drew1 | refine below_set ?_ GE200.out | refine below_set ?_ GE201.out) | exact HB.out)⟩
                 ·rw [if_neg c53] at H
                  exact absurd H (by simp)
                ·rw [if_neg c51] at H
                 exact absurd H (by simp)
               ·rw [if_neg c49] at H
                exact absurd H (by simp)
              ·rw [if_neg c48] at H
               have c48b0 : decide (((rd_T33 t193 a1).f0) < ((rd_T33 t193 a2).f0)) = false := decide_eq_false c48
               clear c48
               by_cases c59 : ((decide (a1 < a2)) == (decide (((rd_T33 t193 a1).f1) < (ji46)))) = true
               ·rw [if_pos c59] at H
                have c59b0 : ((decide (a1 < a2)) == (decide (((rd_T33 t193 a1).f1) < (ji46)))) = true := c59
                (try (have c59b1 : decide ((decide (a1 < a2)) = (decide (((rd_T33 t193 a1).f1) < (ji46)))) = true := by simpa using c59))
                (try (have c59b2 : ((decide (a1 < a2)) == (decide (((rd_T33 t193 a1).f1) < (ji46)))) = true := by simpa using c59))
                clear c59
                obtain ⟨ji60, hji60⟩ : ∃ j_ : Int, (IntKind.u64.wrap (((rd_T33 t193 a1).f0))) = j_ := ⟨_, rfl⟩
                replace H : (if 0 ≤ (ji60) then (if (shr .u64 ((rd_T33 t193 a1).f1) (ji60)) = 0 then ((haystacklaw11_heads.f kj19).bind fun t204 => (some t204)) else (none)) else (none)) = some r := by first | (rw [hji60] at H; exact H) | (simp only [hji60] at H ⊢; exact H)
                by_cases c61 : 0 ≤ (ji60)
                ·rw [if_pos c61] at H
                 have c61b0 := eq_true c61
                 have c61b1 : decide (0 ≤ (ji60)) = true := decide_eq_true c61
                 clear c61
                 obtain ⟨ji62, hji62⟩ : ∃ j_ : Int, (shr .u64 ((rd_T33 t193 a1).f1) (ji60)) = j_ := ⟨_, rfl⟩
                 replace H : (if (ji62) = 0 then ((haystacklaw11_heads.f kj19).bind fun t204 => (some t204)) else (none)) = some r := by first | (rw [hji62] at H; exact H) | (simp only [hji62] at H ⊢; exact H)
                 have hji62_ : (((rd_T33 t193 a1).f1) / 2 ^ min (ji60).toNat 64) = ji62 := hji62
                 have hji62z : (ji60) ≤ 64 → (((rd_T33 t193 a1).f1) / 2 ^ (ji60).toNat) = ji62 := shr_small hji62
                 by_cases c63 : (ji62) = 0
                 ·rw [if_pos c63] at H
                  have c63b0 : ((ji62) == 0) = true := beq_iff_eq.mpr c63
                  have c63b1 : ((ji62) != 0) = false := bne_eq_false_iff_eq.mpr c63
                  clear c63
                  replace H := Option.bind_eq_some_iff.mp H
                  obtain ⟨t204, A640, H⟩ := H
                  replace H : (some t204) = some r := H
                  have A64 := Aside0.mk A640
                  clear A640
                  obtain rfl := Option.some.inj H
                  have hnb65 := NB201_200.out
                  have hnc65 := NB200_201.out
                  have hcz66_0 : wc.cell? ⟨gb201, 0, none⟩ = some (.int .i64 ((rd_T33 t193 a2).f0)) := (blk_cell BK201.out 0).trans rfl
                  have hcz66_1 : wc.cell? ⟨gb201, 1, none⟩ = some (.int .u64 ((rd_T33 t193 a2).f1)) := (blk_cell BK201.out 1).trans rfl
                  have hfz66_0 := blk_frozen BK201.out 0
                  have hfz66_1 := blk_frozen BK201.out 1
                  have hcz67_0 : wc.cell? ⟨gb200, 0, none⟩ = some (.int .i64 ((rd_T33 t193 a1).f0)) := (blk_cell BK200.out 0).trans rfl
                  have hcz67_1 : wc.cell? ⟨gb200, 1, none⟩ = some (.int .u64 ((rd_T33 t193 a1).f1)) := (blk_cell BK200.out 1).trans rfl
                  have hfz67_0 := blk_frozen BK200.out 0
                  have hfz67_1 := blk_frozen BK200.out 1
                  go_wp2_with (first | (go_at_call 8; (with_reducible refine (haystacklaw11_heads.calls kj19  t204 _ A64.out).mono ?_); rintro e w68 ⟨rfl, hb⟩; have n0_ := Aside0.mk (blk_below (g := gb200) (o := .cells #[.int .i64 ((rd_T33 t193 a1).f0), .int .u64 ((rd_T33 t193 a1).f1)] 33 (0, 0)) (by (with_reducible repeat (first | refine blk_drewN ?_ _ | refine blk_drew ?_ | refine blk_alloc ?_ _)); exact BK200.out) hb); have n1_ := Aside0.mk (blk_below (g := gb201) (o := .cells #[.int .i64 ((rd_T33 t193 a2).f0), .int .u64 ((rd_T33 t193 a2).f1)] 33 (0, 0)) (by (with_reducible repeat (first | refine blk_drewN ?_ _ | refine blk_drew ?_ | refine blk_alloc ?_ _)); exact BK201.out) hb); have n2_ := Aside0.mk (below_step (by repeat (first | (with_reducible first | exact HB.out | apply below_alloc | apply pw_below_drewN | apply below_drew1 | refine below_set ?_ GE200.out | refine below_set ?_ GE201.out) | exact HB.out)) hb); clear BK200; clear BK201; clear HB; have BK200 := n0_; have BK201 := n1_; have HB := n2_; clear n0_ n1_ n2_; (try clear hb); (try clear hb2); (try clear hk); (try clear hi)))
                  go_ret
                  exact ⟨by first | rfl | (simp [errW_none, errW_some] <;> rfl) | (simp only [← hji44, ← hji46, ← hji60, ← hji62]; first | rfl | (simp [errW_none, errW_some] <;> rfl)) | (simp [*, errW_none, errW_some] <;> rfl), by repeat (first | (with_reducible first | exact HB.out | apply below_alloc | apply pw_below_drewN | apply below_drew1 | refine below_set ?_ GE200.out | refine below_set ?_ GE201.out) | exact HB.out)⟩
                 ·rw [if_neg c63] at H
                  exact absurd H (by simp)
                ·rw [if_neg c61] at H
                 exact absurd H (by simp)
               ·rw [if_neg c59] at H
                exact absurd H (by simp)
            ·rw [if_neg c45] at H
             exact absurd H (by simp)
        ·rw [if_neg c19] at H
         exact absurd H (by simp)
       ·rw [if_neg c18] at H
        exact absurd H (by simp)
      ·rw [if_neg c17] at H
       exact absurd H (by simp)
     ·rw [if_neg c16] at H
      exact absurd H (by simp)

/-- THE ONE PURE STATEMENT of haystacklaw11_HuffApart: yours. -/
def haystacklaw11_HuffApart.Pure : Prop := ∀ (l0 : List Int) (a1 : Int) (a2 : Int), l0.length ≤ maxLen → l0.length * 8 ≤ 140737488351232 → (∀ x ∈ l0, (Lit.int .i64 x).wf = true) → (Lit.int .u8 a1).wf = true → (Lit.int .u8 a2).wf = true → ∃ k, haystacklaw11_HuffApart.f k l0 a1 a2 = some true
theorem haystacklaw11_HuffApart.walk (P : haystacklaw11_HuffApart.Pure) (a0 : Option Addr) (len0 cap0 : Nat) (z0 : List Int) (a1 : Int) (a2 : Int) (w : World) (w0 : (a0 = none ∧ len0 = 0 ∧ cap0 = 0 ∧ z0 = []) ∨ ∃ x, a0 = some x ∧ len0 ≤ cap0 ∧ cap0 ≤ maxLen ∧ z0.length = cap0 ∧ (∀ i, i < z0.length → w.cell? (x.add i) = some (.int .i64 (z0.getD i 0))) ∧ ∀ n ∈ z0, (Lit.int .i64 n).wf = true) (y0 : len0 * 8 ≤ 140737488351232) (w1 : (Lit.int .u8 a1).wf = true) (w2 : (Lit.int .u8 a2).wf = true) :
  Calls Try.prog 4 #[.slice a0 len0 cap0, .int .u8 a1, .int .u8 a2] w fun e w' => e = .returned (.bool true) ∧ Below w.heap.size w w' := by
 obtain ⟨l0, rfl, hr0, hm0, hw0, hc0⟩ := ReadsInt.ofRowC w0
 obtain ⟨k, h⟩ := P l0 a1 a2 hm0 y0 hw0 w1 w2
 refine (haystacklaw11_HuffApart.calls k _ _ l0 a1 a2 true w (Kd.C_of_reads (d := (0 : Int)) (h1 := fun _ => rfl) hr0) hc0 h).mono ?_
 rintro e w' ⟨rfl, hd⟩
 exact ⟨rfl, hd⟩

end Go.Proofs.Ytceompmfmceicaa.PHuffApart
