-- written by a program of this project (print2)
import Derived.Test.YtceompmfmceicaaPHuffTellsx0
import Derived.Test.YtceompmfmceicaaPHuffTellsx2
import Derived.Test.YtceompmfmceicaaPHuffTellsx3
import Derived.Test.YtceompmfmceicaaPHuffTellsx6
import Derived.Test.YtceompmfmceicaaPHuffTellsx7
namespace Go.Proofs.Ytceompmfmceicaa.PHuffTells
open Go.RowKit Go.Proofs.YtceompmfmceicaaW.PrintMine Go.Proofs.YtceompmfmceicaaW.PrintWords Go.Proofs.YtceompmfmceicaaW.PrintLast Go.Proofs.YtceompmfmceicaaW.PrintMore
attribute [local go_sem] max2_int min2_int max_two min_two max_three min_three max_four min_four   -- for this text's walks alone
set_option linter.unusedVariables false
set_option linter.unusedSimpArgs false

/-! ### haystacklaw11_heads: function 8 -/
def haystacklaw11_heads.j0 : Nat → List Int → List Int → List (S33) → Bool → Option (Bool)
 | 0, _, _, _, _ => none
 | k + 1, x1, x2, x4, x46 => if x46 = true then (none) else (if 99 < (x4.length : Int) then ((huff_Put.f k 0 ([] : List Int) ((rd_T33 x4 99).f0) ((rd_T33 x4 99).f1)).bind fun bt174 => ((huff_Next.f x4 bt174.1 bt174.2.1 0).bind fun bt180 => ((huff_Next.f x4 bt174.1 bt174.2.1 bt180.2.1).bind fun bt183 => (if 97 < (x2.length : Int) then (if (rd x2 97) = 1 then (if 98 < (x2.length : Int) then (if (rd x2 98) = 2 then (if 97 < (x4.length : Int) then (if ((rd_T33 x4 97).f1) = 0 then (if 98 < (x4.length : Int) then (if ((rd_T33 x4 98).f1) = 2 then (if ((rd_T33 x4 99).f1) = 3 then (if bt174.2.2 = 0 then (if bt180.1 = 99 then (if bt180.2.1 = 2 then (if bt180.2.2 = 0 then (if bt183.2.2 = 160 then ((huff_Cost.f x1 x2).bind fun t191 => (some (t191 == 7))) else (none)) else (none)) else (none)) else (none)) else (none)) else (none)) else (none)) else (none)) else (none)) else (none)) else (none)) else (none)) else (none)) else (none))))) else (none))
def haystacklaw11_heads.f (k : Nat)  : Option (Bool) := if 256 ≤ 35184372088832 then ((some (List.replicate 256 0 : List Int)).bind fun y159 => (if 97 < (y159.length : Int) then (if 98 < (y159.length : Int) then (if 99 < (y159.length : Int) then ((some (((y159.set (97 : Int).toNat 3).set (98 : Int).toNat 1).set (99 : Int).toNat 1 : List Int)).bind fun y164 => ((huff_Lengths.f y164).bind fun bt165 => ((huff_Codes.f bt165.1).bind fun bt169 => (if bt165.2 = 0 then (if bt169.2 = 0 then (if (bt165.1.length : Int) = 256 then (haystacklaw11_heads.j0 k y164 bt165.1 bt169.1 ((bt169.1.length : Int) != 256)) else (haystacklaw11_heads.j0 k y164 bt165.1 bt169.1 true)) else (haystacklaw11_heads.j0 k y164 bt165.1 bt169.1 true)) else (haystacklaw11_heads.j0 k y164 bt165.1 bt169.1 true))))) else (none)) else (none)) else (none))) else (none)
theorem haystacklaw11_heads.mono_l : ∀ k, (∀ y0 y1 y2 y3, LeO (haystacklaw11_heads.j0 k y0 y1 y2 y3) (haystacklaw11_heads.j0 (k + 1) y0 y1 y2 y3))
 | 0 => fun _ _ _ _ r h => by simp [haystacklaw11_heads.j0] at h
 | k + 1 => by
  have ih0 := haystacklaw11_heads.mono_l k
  ·intro y0 y1 y2 y3
   unfold haystacklaw11_heads.j0
   repeat' first
   | (with_reducible exact ih0 _ _ _ _)
   | (with_reducible exact huff_Put.mono _ _ _ _ _)
   | (with_reducible exact LeO.refl _)
   | (with_reducible exact LeO.none _)
   | (with_reducible refine LeO.ite ?_ ?_)
   | (with_reducible refine LeO.bind ?_ (fun _ => ?_))
   | exact ih0 _ _ _ _
   | exact huff_Put.mono _ _ _ _ _
   | exact LeO.none _
   | refine LeO.ite ?_ ?_
   | refine LeO.bind ?_ (fun _ => ?_)
theorem haystacklaw11_heads.mono : ∀ k, LeO (haystacklaw11_heads.f k ) (haystacklaw11_heads.f (k + 1) ) := by
 intro  k
 have ih0 := haystacklaw11_heads.mono_l k
 unfold haystacklaw11_heads.f
 repeat' first
   | (with_reducible exact ih0 _ _ _ _)
   | (with_reducible exact huff_Put.mono _ _ _ _ _)
   | (with_reducible exact LeO.refl _)
   | (with_reducible exact LeO.none _)
   | (with_reducible refine LeO.ite ?_ ?_)
   | (with_reducible refine LeO.bind ?_ (fun _ => ?_))
   | exact ih0 _ _ _ _
   | exact huff_Put.mono _ _ _ _ _
   | exact LeO.none _
   | refine LeO.ite ?_ ?_
   | refine LeO.bind ?_ (fun _ => ?_)
set_option maxHeartbeats 8000000 in
set_option maxRecDepth 100000 in
theorem haystacklaw11_heads.calls (k : Nat)  (r : Bool) (w : World) (h : haystacklaw11_heads.f k  = some r) :
  Calls Try.prog 8 #[] w fun e w' => e = .returned (.bool r) ∧ Below w.heap.size w w' := by
 have hu45 := Try.underlying45
 have hu33 := Try.underlying33
 have HB := Aside0.mk (Below.refl w.heap.size w)
 have H : (if 256 ≤ 35184372088832 then ((some (List.replicate 256 0 : List Int)).bind fun y159 => (if 97 < (y159.length : Int) then (if 98 < (y159.length : Int) then (if 99 < (y159.length : Int) then ((some (((y159.set (97 : Int).toNat 3).set (98 : Int).toNat 1).set (99 : Int).toNat 1 : List Int)).bind fun y164 => ((huff_Lengths.f y164).bind fun bt165 => ((huff_Codes.f bt165.1).bind fun bt169 => (if bt165.2 = 0 then (if bt169.2 = 0 then (if (bt165.1.length : Int) = 256 then (haystacklaw11_heads.j0 k y164 bt165.1 bt169.1 ((bt169.1.length : Int) != 256)) else (haystacklaw11_heads.j0 k y164 bt165.1 bt169.1 true)) else (haystacklaw11_heads.j0 k y164 bt165.1 bt169.1 true)) else (haystacklaw11_heads.j0 k y164 bt165.1 bt169.1 true))))) else (none)) else (none)) else (none))) else (none)) = some r := h
 clear h
 by_cases c1 : 256 ≤ 35184372088832
 ·rw [if_pos c1] at H
  have c1b0 := eq_true c1
  have c1b1 : decide (256 ≤ 35184372088832) = true := decide_eq_true c1
  clear c1
  obtain ⟨y159, hy159⟩ : ∃ y_ : List Int, y_ = (List.replicate 256 0) := ⟨_, rfl⟩
  replace H : (if 97 < (y159.length : Int) then (if 98 < (y159.length : Int) then (if 99 < (y159.length : Int) then ((some (((y159.set (97 : Int).toNat 3).set (98 : Int).toNat 1).set (99 : Int).toNat 1 : List Int)).bind fun y164 => ((huff_Lengths.f y164).bind fun bt165 => ((huff_Codes.f bt165.1).bind fun bt169 => (if bt165.2 = 0 then (if bt169.2 = 0 then (if (bt165.1.length : Int) = 256 then (haystacklaw11_heads.j0 k y164 bt165.1 bt169.1 ((bt169.1.length : Int) != 256)) else (haystacklaw11_heads.j0 k y164 bt165.1 bt169.1 true)) else (haystacklaw11_heads.j0 k y164 bt165.1 bt169.1 true)) else (haystacklaw11_heads.j0 k y164 bt165.1 bt169.1 true))))) else (none)) else (none)) else (none)) = some r := by first | (rw [hy159]; with_reducible exact H) | (have H2_ := (Option.bind_some _ _).symm.trans H; rw [hy159]; with_reducible exact H2_) | (have H2_ := (Option.bind_some _ _).symm.trans H; with_reducible exact H2_) | with_reducible exact H | (rw [hy159]; exact H) | exact H
  have Ny159 := Aside0.mk hy159
  clear hy159
  by_cases c2 : 97 < (y159.length : Int)
  ·rw [if_pos c2] at H
   have c2b0 : decide (97 < (y159.length : Int)) = true := decide_eq_true c2
   have c2b1 : decide (97 < y159.length) = true := decide_eq_true (by omega)
   clear c2
   obtain ⟨y162, hy162⟩ : ∃ y_ : List Int, y_ = (y159.set (97 : Int).toNat 3) := ⟨_, rfl⟩
   replace H : (if 98 < (y159.length : Int) then (if 99 < (y159.length : Int) then ((some ((y162.set (98 : Int).toNat 1).set (99 : Int).toNat 1 : List Int)).bind fun y164 => ((huff_Lengths.f y164).bind fun bt165 => ((huff_Codes.f bt165.1).bind fun bt169 => (if bt165.2 = 0 then (if bt169.2 = 0 then (if (bt165.1.length : Int) = 256 then (haystacklaw11_heads.j0 k y164 bt165.1 bt169.1 ((bt169.1.length : Int) != 256)) else (haystacklaw11_heads.j0 k y164 bt165.1 bt169.1 true)) else (haystacklaw11_heads.j0 k y164 bt165.1 bt169.1 true)) else (haystacklaw11_heads.j0 k y164 bt165.1 bt169.1 true))))) else (none)) else (none)) = some r := by first | (rw [hy162]; with_reducible exact H) | (have H2_ := (Option.bind_some _ _).symm.trans H; rw [hy162]; with_reducible exact H2_) | (have H2_ := (Option.bind_some _ _).symm.trans H; with_reducible exact H2_) | with_reducible exact H | (rw [hy162]; exact H) | exact H
   have Ny162 := Aside0.mk hy162
   clear hy162
   by_cases c4 : 98 < (y159.length : Int)
   ·rw [if_pos c4] at H
    have c4b0 : decide (98 < (y159.length : Int)) = true := decide_eq_true c4
    have c4b1 : decide (98 < y159.length) = true := decide_eq_true (by omega)
    clear c4
    obtain ⟨y163, hy163⟩ : ∃ y_ : List Int, y_ = (y162.set (98 : Int).toNat 1) := ⟨_, rfl⟩
    replace H : (if 99 < (y159.length : Int) then ((some (y163.set (99 : Int).toNat 1 : List Int)).bind fun y164 => ((huff_Lengths.f y164).bind fun bt165 => ((huff_Codes.f bt165.1).bind fun bt169 => (if bt165.2 = 0 then (if bt169.2 = 0 then (if (bt165.1.length : Int) = 256 then (haystacklaw11_heads.j0 k y164 bt165.1 bt169.1 ((bt169.1.length : Int) != 256)) else (haystacklaw11_heads.j0 k y164 bt165.1 bt169.1 true)) else (haystacklaw11_heads.j0 k y164 bt165.1 bt169.1 true)) else (haystacklaw11_heads.j0 k y164 bt165.1 bt169.1 true))))) else (none)) = some r := by first | (rw [hy163]; with_reducible exact H) | (have H2_ := (Option.bind_some _ _).symm.trans H; rw [hy163]; with_reducible exact H2_) | (have H2_ := (Option.bind_some _ _).symm.trans H; with_reducible exact H2_) | with_reducible exact H | (rw [hy163]; exact H) | exact H
    have Ny163 := Aside0.mk hy163
    clear hy163
    by_cases c6 : 99 < (y159.length : Int)
    ·rw [if_pos c6] at H
     have c6b0 : decide (99 < (y159.length : Int)) = true := decide_eq_true c6
     have c6b1 : decide (99 < y159.length) = true := decide_eq_true (by omega)
     clear c6
     obtain ⟨y164, hy164⟩ : ∃ y_ : List Int, y_ = (y163.set (99 : Int).toNat 1) := ⟨_, rfl⟩
     replace H : ((huff_Lengths.f y164).bind fun bt165 => ((huff_Codes.f bt165.1).bind fun bt169 => (if bt165.2 = 0 then (if bt169.2 = 0 then (if (bt165.1.length : Int) = 256 then (haystacklaw11_heads.j0 k y164 bt165.1 bt169.1 ((bt169.1.length : Int) != 256)) else (haystacklaw11_heads.j0 k y164 bt165.1 bt169.1 true)) else (haystacklaw11_heads.j0 k y164 bt165.1 bt169.1 true)) else (haystacklaw11_heads.j0 k y164 bt165.1 bt169.1 true)))) = some r := by first | (rw [hy164]; with_reducible exact H) | (have H2_ := (Option.bind_some _ _).symm.trans H; rw [hy164]; with_reducible exact H2_) | (have H2_ := (Option.bind_some _ _).symm.trans H; with_reducible exact H2_) | with_reducible exact H | (rw [hy164]; exact H) | exact H
     have Ny164 := Aside0.mk hy164
     clear hy164
     replace H := Option.bind_eq_some_iff.mp H
     obtain ⟨⟨t165, t166⟩, A80, H⟩ := H
     replace H : ((huff_Codes.f t165).bind fun bt169 => (if t166 = 0 then (if bt169.2 = 0 then (if (t165.length : Int) = 256 then (haystacklaw11_heads.j0 k y164 t165 bt169.1 ((bt169.1.length : Int) != 256)) else (haystacklaw11_heads.j0 k y164 t165 bt169.1 true)) else (haystacklaw11_heads.j0 k y164 t165 bt169.1 true)) else (haystacklaw11_heads.j0 k y164 t165 bt169.1 true))) = some r := H
     have A8 := Aside0.mk A80
     clear A80
     replace H := Option.bind_eq_some_iff.mp H
     obtain ⟨⟨t169, t170⟩, A90, H⟩ := H
     replace H : (if t166 = 0 then (if t170 = 0 then (if (t165.length : Int) = 256 then (haystacklaw11_heads.j0 k y164 t165 t169 ((t169.length : Int) != 256)) else (haystacklaw11_heads.j0 k y164 t165 t169 true)) else (haystacklaw11_heads.j0 k y164 t165 t169 true)) else (haystacklaw11_heads.j0 k y164 t165 t169 true)) = some r := H
     have A9 := Aside0.mk A90
     clear A90
     have HC10 := Aside0.mk H
     clear H
     go_enter Try.func8, Try.ntmps8
     go_upto_region 5 with (first | ((with_reducible refine gate_dst (N := 14) rfl ?_); (try (refine gate_guard (by rfl) ?_; dsimp only)); refine Kd.R_make (Kd.int .i64) _ 3 rfl (N := 14) rfl 22 _ _ rfl 256 rfl rfl Try.underlying22 (.int .i64 0) 8 info3 rfl (by decide) (by omega) 0 (ok := fun _ => True) (okp := fun _ => True) rfl (fun _ hk => hk) trivial (by omega) (by omega) (Below.refl _ _) (Nat.le_refl _) ?_; intro v160 w11 ho12 hb hg_ hnew_; clear hg_ hnew_; (first | rw [← Ny159.out] at ho12 | (simp only [Int.reduceToNat] at ho12; rw [← Ny159.out] at ho12)); have n0_ := Aside0.mk (Kd.R_lower ho12 (below_size (by repeat (first | (with_reducible first | exact HB.out | apply below_alloc | apply pw_below_drewN | apply below_drew1) | exact HB.out)))); have n1_ := Aside0.mk (below_step (by repeat (first | (with_reducible first | exact HB.out | apply below_alloc | apply pw_below_drewN | apply below_drew1) | exact HB.out)) hb); clear HB; have HO161 := n0_; have HB := n1_; clear n0_ n1_; clear hb ho12; have p3 : 0 ≤ (97 : Int) := (by omega); have q3 : (97 : Int) < ((y159.length : Int) : Int) := of_decide_eq_true (by first | (with_reducible assumption) | assumption); have qi3 : (97 < y159.length) = True := eq_true (by omega); obtain ⟨go3, co3, eo3, gb3, gl3, cl3, HG3⟩ := Kd.R_form HO161.out (by omega); (first | cases eo3 | (injection eo3 with ea_ en_ ec_; (first | subst ea_ | (injection ea_ with ea_; subst ea_)); subst ec_; clear en_)); have GB3 := Aside0.mk gb3; have GG3 := Aside0.mk HG3; clear gb3 gl3 HG3; obtain ⟨hx3_0, hf3_0⟩ := Kd.R_celln 0 HO161.out (97 : Int) p3 q3; (try rw [show ((97 : Int)).toNat = 97 from rfl] at hx3_0); (try simp only [Nat.reduceMul, Nat.zero_mul, Nat.zero_add, Nat.reduceAdd] at hx3_0); (try rw [show ((97 : Int)).toNat = 97 from rfl] at hf3_0); (try simp only [Nat.reduceMul, Nat.zero_mul, Nat.zero_add, Nat.reduceAdd] at hf3_0); replace p3 := eq_true p3; replace q3 := eq_true q3; obtain ⟨hy13_, hz13_⟩ := Kd.R_celln 0 HO161.out (97 : Int) (by omega) (of_decide_eq_true (by first | (with_reducible assumption) | assumption)); (try simp only [Int.reduceToNat, Int.toNat_zero, Int.toNat_ofNat, Nat.reduceMul, Nat.zero_mul, Nat.zero_add] at hy13_ hz13_); (try rw [show ((97 : Int)).toNat = 97 from rfl] at hy13_); (try rw [show ((97 : Int)).toNat = 97 from rfl] at hz13_); have HP13 := Kd.R_putg HO161.out (97 : Int) 3) | ((with_reducible refine gate_store (t := 3) (p := 18) rfl ?_); refine store_event (t := 3) (p := 18) (v := ?vo_w14) (w1 := (w11.setCell ⟨go3, (97 : Int).toNat, none⟩ (.int .i64 3))) ?hg ?ho ?hn ?hr ?_; (case ho => rfl); (case hg => rfl); (case hn => rfl); (case hr => first | (go_simp; done) | (go_simp; rfl)); intro w14 hw; have hg : w11.grownBy w14 (some go3) := (by rw [hw]; exact HP13.2); have hp_ : Kd.R (Kd.int .i64) 3 w14 w.heap.size (fun _ => True) (.slice (some ⟨go3, 0, none⟩) y159.length co3) y162 := (by rw [hw, Ny162.out]; exact HP13.1); clear HP13; have n0_ := Aside0.mk (hp_); have n1_ := Aside0.mk ((by rw [hw]; exact below_set (HB.out) GB3.out : Below w.heap.size w w14)); clear HO161; clear HB; have HO161 := n0_; have HB := n1_; clear n0_ n1_; clear hg hw hp_; have p5 : 0 ≤ (98 : Int) := (by omega); have q5 : (98 : Int) < ((y159.length : Int) : Int) := of_decide_eq_true (by first | (with_reducible assumption) | assumption); have qi5 : (98 < y159.length) = True := eq_true (by omega); obtain ⟨hx5_0, hf5_0⟩ := Kd.R_celln 0 HO161.out (98 : Int) p5 q5; (try rw [show ((98 : Int)).toNat = 98 from rfl] at hx5_0); (try simp only [Nat.reduceMul, Nat.zero_mul, Nat.zero_add, Nat.reduceAdd] at hx5_0); (try rw [show ((98 : Int)).toNat = 98 from rfl] at hf5_0); (try simp only [Nat.reduceMul, Nat.zero_mul, Nat.zero_add, Nat.reduceAdd] at hf5_0); replace p5 := eq_true p5; replace q5 := eq_true q5; obtain ⟨hy15_, hz15_⟩ := Kd.R_celln 0 HO161.out (98 : Int) (by omega) (of_decide_eq_true (by first | (with_reducible assumption) | assumption)); (try simp only [Int.reduceToNat, Int.toNat_zero, Int.toNat_ofNat, Nat.reduceMul, Nat.zero_mul, Nat.zero_add] at hy15_ hz15_); (try rw [show ((98 : Int)).toNat = 98 from rfl] at hy15_); (try rw [show ((98 : Int)).toNat = 98 from rfl] at hz15_); have HP15 := Kd.R_putg HO161.out (98 : Int) 1) | ((with_reducible refine gate_store (t := 3) (p := 19) rfl ?_); refine store_event (t := 3) (p := 19) (v := ?vo_w16) (w1 := (w14.setCell ⟨go3, (98 : Int).toNat, none⟩ (.int .i64 1))) ?hg ?ho ?hn ?hr ?_; (case ho => rfl); (case hg => rfl); (case hn => rfl); (case hr => first | (go_simp; done) | (go_simp; rfl)); intro w16 hw; have hg : w14.grownBy w16 (some go3) := (by rw [hw]; exact HP15.2); have hp_ : Kd.R (Kd.int .i64) 3 w16 w.heap.size (fun _ => True) (.slice (some ⟨go3, 0, none⟩) y159.length co3) y163 := (by rw [hw, Ny163.out]; exact HP15.1); clear HP15; have n0_ := Aside0.mk (hp_); have n1_ := Aside0.mk ((by rw [hw]; exact below_set (HB.out) GB3.out : Below w.heap.size w w16)); clear HO161; clear HB; have HO161 := n0_; have HB := n1_; clear n0_ n1_; clear hg hw hp_; have p7 : 0 ≤ (99 : Int) := (by omega); have q7 : (99 : Int) < ((y159.length : Int) : Int) := of_decide_eq_true (by first | (with_reducible assumption) | assumption); have qi7 : (99 < y159.length) = True := eq_true (by omega); obtain ⟨hx7_0, hf7_0⟩ := Kd.R_celln 0 HO161.out (99 : Int) p7 q7; (try rw [show ((99 : Int)).toNat = 99 from rfl] at hx7_0); (try simp only [Nat.reduceMul, Nat.zero_mul, Nat.zero_add, Nat.reduceAdd] at hx7_0); (try rw [show ((99 : Int)).toNat = 99 from rfl] at hf7_0); (try simp only [Nat.reduceMul, Nat.zero_mul, Nat.zero_add, Nat.reduceAdd] at hf7_0); replace p7 := eq_true p7; replace q7 := eq_true q7; obtain ⟨hy17_, hz17_⟩ := Kd.R_celln 0 HO161.out (99 : Int) (by omega) (of_decide_eq_true (by first | (with_reducible assumption) | assumption)); (try simp only [Int.reduceToNat, Int.toNat_zero, Int.toNat_ofNat, Nat.reduceMul, Nat.zero_mul, Nat.zero_add] at hy17_ hz17_); (try rw [show ((99 : Int)).toNat = 99 from rfl] at hy17_); (try rw [show ((99 : Int)).toNat = 99 from rfl] at hz17_); have HP17 := Kd.R_putg HO161.out (99 : Int) 1) | ((with_reducible refine gate_store (t := 3) (p := 20) rfl ?_); refine store_event (t := 3) (p := 20) (v := ?vo_w18) (w1 := (w16.setCell ⟨go3, (99 : Int).toNat, none⟩ (.int .i64 1))) ?hg ?ho ?hn ?hr ?_; (case ho => rfl); (case hg => rfl); (case hn => rfl); (case hr => first | (go_simp; done) | (go_simp; rfl)); intro w18 hw; have hg : w16.grownBy w18 (some go3) := (by rw [hw]; exact HP17.2); have hp_ : Kd.R (Kd.int .i64) 3 w18 w.heap.size (fun _ => True) (.slice (some ⟨go3, 0, none⟩) y159.length co3) y164 := (by rw [hw, Ny164.out]; exact HP17.1); clear HP17; have n0_ := Aside0.mk (hp_); have n1_ := Aside0.mk ((by rw [hw]; exact below_set (HB.out) GB3.out : Below w.heap.size w w18)); clear HO161; clear HB; have HO161 := n0_; have HB := n1_; clear n0_ n1_; clear hg hw hp_) | ((with_reducible refine gate_callee (f := 9) rfl ?_); refine goesL_ (some 23) rfl rfl Try.func9 (by kernel_rfl) rfl #[.slice (some ⟨go3, 0, none⟩) y164.length co3] rfl (by (try simp only [List.map_toArray, List.map_cons, List.map_nil]); first | done | (rw [show y164.length = y159.length from (Kd.R_reads' HO161.out).1.symm] <;> rfl) | rfl | (simp only [List.length_drop, List.length_take]; rfl)) ?_; (with_reducible refine (huff_Lengths.calls _ _ y164 t165 t166 _ ?side1 ?side2 A8.out).mono ?_); (case side1 => repeat (first | exact (Kd.R_reads' HO161.out).2.2 | (with_reducible refine Kd.C_alloc ?_ _) | (with_reducible refine Kd.C_drewN ?_ _) | (with_reducible refine Kd.C_drew ?_))); (case side2 => rw [show y164.length = y159.length from (Kd.R_reads' HO161.out).1.symm]; exact (Kd.R_reads' HO161.out).2.1); rintro e w19 ⟨v167, rfl, ho0, hb⟩; refine ⟨_, rfl, ?_⟩; have n0_ := Aside0.mk (Kd.R_elder' (by (with_reducible repeat (first | apply Kd.R_alloc | apply Kd.R_drewN | apply Kd.R_drew)); exact HO161.out) (Kd.R_base ho0) hb); have n1_ := Aside0.mk (Kd.R_lower (Kd.R_new' ho0 (Kd.R_lt (by (with_reducible repeat (first | apply Kd.R_alloc | apply Kd.R_drewN | apply Kd.R_drew)); exact HO161.out))) (below_size (by repeat (first | (with_reducible first | exact HB.out | apply below_alloc | apply pw_below_drewN | apply below_drew1) | exact HB.out)))); have n2_ := Aside0.mk (below_step (by repeat (first | (with_reducible first | exact HB.out | apply below_alloc | apply pw_below_drewN | apply below_drew1) | exact HB.out)) hb); clear HO161; clear HB; have HO161 := n0_; have HO168 := n1_; have HB := n2_; clear n0_ n1_ n2_; (try clear hb); (try clear hb2); (try clear hk); (try clear hi); (try clear ho0); obtain ⟨Ao20, co20, eo20⟩ := Kd.R_slice HO168.out; subst eo20) | ((with_reducible refine gate_callee (f := 10) rfl ?_); refine goesL_ (some 28) rfl rfl Try.func10 (by kernel_rfl) rfl #[.slice Ao20 t165.length co20] rfl (by (try simp only [List.map_toArray, List.map_cons, List.map_nil]); first | done | rfl | (simp only [List.length_drop, List.length_take]; rfl)) ?_; (with_reducible refine (huff_Codes.calls _ _ t165 t169 t170 _ ?side1 ?side2 A9.out).mono ?_); (case side1 => repeat (first | exact (Kd.R_reads' HO168.out).2.2 | (with_reducible refine Kd.C_alloc ?_ _) | (with_reducible refine Kd.C_drewN ?_ _) | (with_reducible refine Kd.C_drew ?_))); (case side2 => exact (Kd.R_reads' HO168.out).2.1); rintro e w21 ⟨v171, rfl, ho0, hb⟩; refine ⟨_, rfl, ?_⟩; have n0_ := Aside0.mk (Kd.R_below (by (with_reducible repeat (first | apply Kd.R_alloc | apply Kd.R_drewN | apply Kd.R_drew)); exact HO161.out) hb); have n1_ := Aside0.mk (Kd.R_below (by (with_reducible repeat (first | apply Kd.R_alloc | apply Kd.R_drewN | apply Kd.R_drew)); exact HO168.out) hb); have n2_ := Aside0.mk (Kd.R_lower ho0 (below_size (by repeat (first | (with_reducible first | exact HB.out | apply below_alloc | apply pw_below_drewN | apply below_drew1) | exact HB.out)))); have n3_ := Aside0.mk (below_step (by repeat (first | (with_reducible first | exact HB.out | apply below_alloc | apply pw_below_drewN | apply below_drew1) | exact HB.out)) hb); clear HO161; clear HO168; clear HB; have HO161 := n0_; have HO168 := n1_; have HO172 := n2_; have HB := n3_; clear n0_ n1_ n2_ n3_; (try clear hb); (try clear hb2); (try clear hk); (try clear hi); (try clear ho0)))
     (try simp only [Act.put, List.setIfInBounds_toArray, List.set_cons_zero, List.set_cons_succ])
     go_cut [46] (fun v46 wc => ∃ (kq : Nat) (x46_9 : Bool), v46 = .bool x46_9 ∧ Aside0 (haystacklaw11_heads.j0 kq y164 t165 t169 x46_9 = some r) ∧ Aside0 (kq ≤ k) ∧ Aside0 (Kd.R (Kd.int .i64) 3 wc w.heap.size (fun k_ => some k_ ≠ ((.slice Ao20 t165.length co20) : Value).ownBlock) (.slice (some ⟨go3, 0, none⟩) y159.length co3) y164) ∧ Aside0 (Kd.R (Kd.int .i64) 3 wc w.heap.size (fun k_ => some k_ ≠ ((.slice (some ⟨go3, 0, none⟩) y159.length co3) : Value).ownBlock) (.slice Ao20 t165.length co20) t165) ∧ Aside0 (Kd.R k33 33 wc w.heap.size (fun _ => True) v171 t169) ∧ Aside0 (Below w.heap.size w wc))
     case first =>
      have H := HC10.out
      clear HC10
      by_cases c22 : t166 = 0
      ·rw [if_pos c22] at H
       have c22b0 : (t166 == 0) = true := beq_iff_eq.mpr c22
       have c22b1 : (t166 != 0) = false := bne_eq_false_iff_eq.mpr c22
       clear c22
       (first | rw [c22b0] | (simp only [i64_w, i32_w]; rw [c22b0]) | skip)
       by_cases c23 : t170 = 0
       ·rw [if_pos c23] at H
        have c23b0 : (t170 == 0) = true := beq_iff_eq.mpr c23
        have c23b1 : (t170 != 0) = false := bne_eq_false_iff_eq.mpr c23
        clear c23
        by_cases c24 : (t165.length : Int) = 256
        ·rw [if_pos c24] at H
         have c24b0 : ((t165.length : Int) == 256) = true := beq_iff_eq.mpr c24
         have c24b1 : ((t165.length : Int) != 256) = false := bne_eq_false_iff_eq.mpr c24
         clear c24
         have H' := Aside0.mk H
         clear H
         obtain ⟨Ao25, co25, eo25⟩ := Kd.R_slice HO172.out
         subst eo25
         go_wp2
         go_meet
         case rel => exact ⟨_, (((t169.length : Int) != 256)), (by first | rfl | (simp; done) | (simp [*]; done)), H', ⟨by first | omega | exact Nat.le_refl _⟩, ⟨by (with_reducible repeat (first | apply Kd.R_alloc | apply Kd.R_drewN | apply Kd.R_drew)); exact Kd.R_mono HO161.out (fun _ hk => hk.2)⟩, ⟨by (with_reducible repeat (first | apply Kd.R_alloc | apply Kd.R_drewN | apply Kd.R_drew)); exact Kd.R_mono HO168.out (fun _ hk => hk.2)⟩, ⟨by (with_reducible repeat (first | apply Kd.R_alloc | apply Kd.R_drewN | apply Kd.R_drew)); exact HO172.out⟩, ⟨by repeat (first | (with_reducible first | exact HB.out | apply below_alloc | apply pw_below_drewN | apply below_drew1) | exact HB.out)⟩⟩
        ·rw [if_neg c24] at H
         have c24b0 : ((t165.length : Int) == 256) = false := beq_eq_false_iff_ne.mpr c24
         have c24b1 : ((t165.length : Int) != 256) = true := bne_iff_ne.mpr c24
         have H' := Aside0.mk H
         clear H
         go_wp2
         go_meet
         case rel => exact ⟨_, (true), (by first | rfl | (simp; done) | (simp [*]; done)), H', ⟨by first | omega | exact Nat.le_refl _⟩, ⟨by (with_reducible repeat (first | apply Kd.R_alloc | apply Kd.R_drewN | apply Kd.R_drew)); exact Kd.R_mono HO161.out (fun _ hk => hk.2)⟩, ⟨by (with_reducible repeat (first | apply Kd.R_alloc | apply Kd.R_drewN | apply Kd.R_drew)); exact Kd.R_mono HO168.out (fun _ hk => hk.2)⟩, ⟨by (with_reducible repeat (first | apply Kd.R_alloc | apply Kd.R_drewN | apply Kd.R_drew)); exact HO172.out⟩, ⟨by repeat (first | (with_reducible first | exact HB.out | apply below_alloc | apply pw_below_drewN | apply below_drew1) | exact HB.out)⟩⟩
       ·rw [if_neg c23] at H
        have c23b0 : (t170 == 0) = false := beq_eq_false_iff_ne.mpr c23
        have c23b1 : (t170 != 0) = true := bne_iff_ne.mpr c23
        have H' := Aside0.mk H
        clear H
        go_wp2
        go_meet
        case rel => exact ⟨_, (true), (by first | rfl | (simp; done) | (simp [*]; done)), H', ⟨by first | omega | exact Nat.le_refl _⟩, ⟨by (with_reducible repeat (first | apply Kd.R_alloc | apply Kd.R_drewN | apply Kd.R_drew)); exact Kd.R_mono HO161.out (fun _ hk => hk.2)⟩, ⟨by (with_reducible repeat (first | apply Kd.R_alloc | apply Kd.R_drewN | apply Kd.R_drew)); exact Kd.R_mono HO168.out (fun _ hk => hk.2)⟩, ⟨by (with_reducible repeat (first | apply Kd.R_alloc | apply Kd.R_drewN | apply Kd.R_drew)); exact HO172.out⟩, ⟨by repeat (first | (with_reducible first | exact HB.out | apply below_alloc | apply pw_below_drewN | apply below_drew1) | exact HB.out)⟩⟩
      ·rw [if_neg c22] at H
       have c22b0 : (t166 == 0) = false := beq_eq_false_iff_ne.mpr c22
       have c22b1 : (t166 != 0) = true := bne_iff_ne.mpr c22
       (first | rw [c22b0] | (simp only [i64_w, i32_w]; rw [c22b0]) | skip)
       have H' := Aside0.mk H
       clear H
       go_wp2
       go_meet
       case rel => exact ⟨_, (true), (by first | rfl | (simp; done) | (simp [*]; done)), H', ⟨by first | omega | exact Nat.le_refl _⟩, ⟨by (with_reducible repeat (first | apply Kd.R_alloc | apply Kd.R_drewN | apply Kd.R_drew)); exact Kd.R_mono HO161.out (fun _ hk => hk.2)⟩, ⟨by (with_reducible repeat (first | apply Kd.R_alloc | apply Kd.R_drewN | apply Kd.R_drew)); exact Kd.R_mono HO168.out (fun _ hk => hk.2)⟩, ⟨by (with_reducible repeat (first | apply Kd.R_alloc | apply Kd.R_drewN | apply Kd.R_drew)); exact HO172.out⟩, ⟨by repeat (first | (with_reducible first | exact HB.out | apply below_alloc | apply pw_below_drewN | apply below_drew1) | exact HB.out)⟩⟩
     case rest =>
      clear HC10
      try clear c1
      try clear c1b0
      try clear c1b1
      try clear c2
      try clear c2b0
      try clear c2b1
      try clear p2
      try clear p3
      try clear q3
      try clear hx3
      try clear qi3
      try clear hf3
      try clear c4
      try clear c4b0
      try clear c4b1
      try clear p5
      try clear q5
      try clear hx5
      try clear qi5
      try clear hf5
      try clear c6
      try clear c6b0
      try clear c6b1
      try clear p7
      try clear q7
      try clear hx7
      try clear qi7
      try clear hf7
      try clear c8
      try clear c9
      try clear c10
      try clear c22
      try clear c22b0
      try clear c22b1
      try clear c23
      try clear c23b0
      try clear c23b1
      try clear c24
      try clear c24b0
      try clear c24b1
      try clear hx3_0
      try clear hx5_0
      try clear hx7_0
      try clear p3
      try clear p5
      try clear p7
      try clear q3
      try clear q5
      try clear q7
      obtain ⟨kq, x46_9, rfl, HA, HJ9, HO_1, HO_2, HO_4, HB⟩ := hcut
      have hl1_9 := (Kd.R_reads' HO_1.out).1
      rw [hl1_9] at HO_1
      (try simp only [hl1_9])
      (try simp only [hl1_9] at HO_2)
      (try simp only [hl1_9] at HO_4)
      cases kq with
      | zero => exact absurd HA.out (by simp [haystacklaw11_heads.j0])
      | succ kj9 =>
       have H := HA.out
       clear HA
       simp only [haystacklaw11_heads.j0] at H
       by_cases c26 : x46_9 = true
       ·subst c26
        have H1 : (none) = some r := by rw [if_pos rfl] at H; exact H
        clear H
        have H := H1
        clear H1
        exact absurd H (by simp)
       ·replace c26 := Bool.eq_false_iff.mpr c26
        subst c26
        have H1 : (if 99 < (t169.length : Int) then ((huff_Put.f kj9 0 ([] : List Int) ((rd_T33 t169 99).f0) ((rd_T33 t169 99).f1)).bind fun bt174 => ((huff_Next.f t169 bt174.1 bt174.2.1 0).bind fun bt180 => ((huff_Next.f t169 bt174.1 bt174.2.1 bt180.2.1).bind fun bt183 => (if 97 < (t165.length : Int) then (if (rd t165 97) = 1 then (if 98 < (t165.length : Int) then (if (rd t165 98) = 2 then (if 97 < (t169.length : Int) then (if ((rd_T33 t169 97).f1) = 0 then (if 98 < (t169.length : Int) then (if ((rd_T33 t169 98).f1) = 2 then (if ((rd_T33 t169 99).f1) = 3 then (if bt174.2.2 = 0 then (if bt180.1 = 99 then (if bt180.2.1 = 2 then (if bt180.2.2 = 0 then (if bt183.2.2 = 160 then ((huff_Cost.f y164 t165).bind fun t191 => (some (t191 == 7))) else (none)) else (none)) else (none)) else (none)) else (none)) else (none)) else (none)) else (none)) else (none)) else (none)) else (none)) else (none)) else (none)) else (none))))) else (none)) = some r := by rw [if_neg (show ¬ (false = true) by decide)] at H; exact H
        clear H
        have H := H1
        clear H1
        by_cases c27 : 99 < (t169.length : Int)
        ·rw [if_pos c27] at H
         have c27b0 : decide (99 < (t169.length : Int)) = true := decide_eq_true c27
         have c27b0L_ := c27b0
         (try simp only [hl1_9] at c27b0L_)
         have c27b1 : decide (99 < t169.length) = true := decide_eq_true (by omega)
         have c27b1L_ := c27b1
         (try simp only [hl1_9] at c27b1L_)
         clear c27
         replace H := Option.bind_eq_some_iff.mp H
         obtain ⟨⟨t174, t175, t178⟩, A280, H⟩ := H
         replace H : ((huff_Next.f t169 t174 t175 0).bind fun bt180 => ((huff_Next.f t169 t174 t175 bt180.2.1).bind fun bt183 => (if 97 < (t165.length : Int) then (if (rd t165 97) = 1 then (if 98 < (t165.length : Int) then (if (rd t165 98) = 2 then (if 97 < (t169.length : Int) then (if ((rd_T33 t169 97).f1) = 0 then (if 98 < (t169.length : Int) then (if ((rd_T33 t169 98).f1) = 2 then (if ((rd_T33 t169 99).f1) = 3 then (if t178 = 0 then (if bt180.1 = 99 then (if bt180.2.1 = 2 then (if bt180.2.2 = 0 then (if bt183.2.2 = 160 then ((huff_Cost.f y164 t165).bind fun t191 => (some (t191 == 7))) else (none)) else (none)) else (none)) else (none)) else (none)) else (none)) else (none)) else (none)) else (none)) else (none)) else (none)) else (none)) else (none)) else (none)))) = some r := H
         have A28 := Aside0.mk A280
         clear A280
         replace H := Option.bind_eq_some_iff.mp H
         obtain ⟨⟨t180, t181, t182⟩, A290, H⟩ := H
         replace H : ((huff_Next.f t169 t174 t175 t181).bind fun bt183 => (if 97 < (t165.length : Int) then (if (rd t165 97) = 1 then (if 98 < (t165.length : Int) then (if (rd t165 98) = 2 then (if 97 < (t169.length : Int) then (if ((rd_T33 t169 97).f1) = 0 then (if 98 < (t169.length : Int) then (if ((rd_T33 t169 98).f1) = 2 then (if ((rd_T33 t169 99).f1) = 3 then (if t178 = 0 then (if t180 = 99 then (if t181 = 2 then (if t182 = 0 then (if bt183.2.2 = 160 then ((huff_Cost.f y164 t165).bind fun t191 => (some (t191 == 7))) else (none)) else (none)) else (none)) else (none)) else (none)) else (none)) else (none)) else (none)) else (none)) else (none)) else (none)) else (none)) else (none)) else (none))) = some r := H
         have A29 := Aside0.mk A290
         clear A290
         replace H := Option.bind_eq_some_iff.mp H
         obtain ⟨⟨t183, t184, t185⟩, A300, H⟩ := H
         replace H : (if 97 < (t165.length : Int) then (if (rd t165 97) = 1 then (if 98 < (t165.length : Int) then (if (rd t165 98) = 2 then (if 97 < (t169.length : Int) then (if ((rd_T33 t169 97).f1) = 0 then (if 98 < (t169.length : Int) then (if ((rd_T33 t169 98).f1) = 2 then (if ((rd_T33 t169 99).f1) = 3 then (if t178 = 0 then (if t180 = 99 then (if t181 = 2 then (if t182 = 0 then (if t185 = 160 then ((huff_Cost.f y164 t165).bind fun t191 => (some (t191 == 7))) else (none)) else (none)) else (none)) else (none)) else (none)) else (none)) else (none)) else (none)) else (none)) else (none)) else (none)) else (none)) else (none)) else (none)) = some r := H
         have A30 := Aside0.mk A300
         clear A300
         by_cases c31 : 97 < (t165.length : Int)
         ·rw [if_pos c31] at H
          have c31b0 : decide (97 < (t165.length : Int)) = true := decide_eq_true c31
          have c31b0L_ := c31b0
          (try simp only [hl1_9] at c31b0L_)
          have c31b1 : decide (97 < t165.length) = true := decide_eq_true (by omega)
          have c31b1L_ := c31b1
          (try simp only [hl1_9] at c31b1L_)
          clear c31
          by_cases c32 : (rd t165 97) = 1
          ·rw [if_pos c32] at H
           have c32b0 : ((rd t165 97) == 1) = true := beq_iff_eq.mpr c32
           have c32b1 : ((rd t165 97) != 1) = false := bne_eq_false_iff_eq.mpr c32
           clear c32
           by_cases c33 : 98 < (t165.length : Int)
           ·rw [if_pos c33] at H
            have c33b0 : decide (98 < (t165.length : Int)) = true := decide_eq_true c33
            have c33b0L_ := c33b0
            (try simp only [hl1_9] at c33b0L_)
            have c33b1 : decide (98 < t165.length) = true := decide_eq_true (by omega)
            have c33b1L_ := c33b1
            (try simp only [hl1_9] at c33b1L_)
            clear c33
            by_cases c34 : (rd t165 98) = 2
            ·rw [if_pos c34] at H
             have c34b0 : ((rd t165 98) == 2) = true := beq_iff_eq.mpr c34
             have c34b1 : ((rd t165 98) != 2) = false := bne_eq_false_iff_eq.mpr c34
             clear c34
             by_cases c35 : 97 < (t169.length : Int)
             ·rw [if_pos c35] at H
              have c35b0 : decide (97 < (t169.length : Int)) = true := decide_eq_true c35
              have c35b0L_ := c35b0
              (try simp only [hl1_9] at c35b0L_)
              have c35b1 : decide (97 < t169.length) = true := decide_eq_true (by omega)
              have c35b1L_ := c35b1
              (try simp only [hl1_9] at c35b1L_)
              clear c35
              by_cases c36 : ((rd_T33 t169 97).f1) = 0
              ·rw [if_pos c36] at H
               have c36b0 : (((rd_T33 t169 97).f1) == 0) = true := beq_iff_eq.mpr c36
               have c36b1 : (((rd_T33 t169 97).f1) != 0) = false := bne_eq_false_iff_eq.mpr c36
               clear c36
               by_cases c37 : 98 < (t169.length : Int)
               ·rw [if_pos c37] at H
                have c37b0 : decide (98 < (t169.length : Int)) = true := decide_eq_true c37
                have c37b0L_ := c37b0
                (try simp only [hl1_9] at c37b0L_)
                have c37b1 : decide (98 < t169.length) = true := decide_eq_true (by omega)
                have c37b1L_ := c37b1
                (try simp only [hl1_9] at c37b1L_)
                clear c37
                by_cases c38 : ((rd_T33 t169 98).f1) = 2
                ·rw [if_pos c38] at H
                 have c38b0 : (((rd_T33 t169 98).f1) == 2) = true := beq_iff_eq.mpr c38
                 have c38b1 : (((rd_T33 t169 98).f1) != 2) = false := bne_eq_false_iff_eq.mpr c38
                 clear c38
                 by_cases c39 : ((rd_T33 t169 99).f1) = 3
                 ·rw [if_pos c39] at H
                  have c39b0 : (((rd_T33 t169 99).f1) == 3) = true := beq_iff_eq.mpr c39
                  have c39b1 : (((rd_T33 t169 99).f1) != 3) = false := bne_eq_false_iff_eq.mpr c39
                  clear c39
                  by_cases c40 : t178 = 0
                  ·rw [if_pos c40] at H
                   have c40b0 : (t178 == 0) = true := beq_iff_eq.mpr c40
                   have c40b1 : (t178 != 0) = false := bne_eq_false_iff_eq.mpr c40
                   clear c40
                   by_cases c41 : t180 = 99
                   ·rw [if_pos c41] at H
                    have c41b0 : (t180 == 99) = true := beq_iff_eq.mpr c41
                    have c41b1 : (t180 != 99) = false := bne_eq_false_iff_eq.mpr c41
                    clear c41
                    by_cases c42 : t181 = 2
                    ·rw [if_pos c42] at H
                     have c42b0 : (t181 == 2) = true := beq_iff_eq.mpr c42
                     have c42b1 : (t181 != 2) = false := bne_eq_false_iff_eq.mpr c42
                     clear c42
                     by_cases c43 : t182 = 0
                     ·rw [if_pos c43] at H
                      have c43b0 : (t182 == 0) = true := beq_iff_eq.mpr c43
                      have c43b1 : (t182 != 0) = false := bne_eq_false_iff_eq.mpr c43
                      clear c43
                      by_cases c44 : t185 = 160
                      ·rw [if_pos c44] at H
                       have c44b0 : (t185 == 160) = true := beq_iff_eq.mpr c44
                       have c44b1 : (t185 != 160) = false := bne_eq_false_iff_eq.mpr c44
                       clear c44
                       replace H := Option.bind_eq_some_iff.mp H
                       obtain ⟨t191, A450, H⟩ := H
                       replace H : (some (t191 == 7)) = some r := H
                       have A45 := Aside0.mk A450
                       clear A450
                       obtain rfl := Option.some.inj H
                       obtain ⟨Ao46, co46, eo46⟩ := Kd.R_slice HO_4.out
                       subst eo46
                       have p173 : 0 ≤ (99 : Int) := (by omega)
                       have q173 : 99 < (t169.length : Int) := of_decide_eq_true (by first | (with_reducible assumption) | assumption)
                       obtain ⟨ad173, e173, hx173_0, hx173_1⟩ := at_T33 (Kd.R_reads' HO_4.out).2.2 99 p173 q173
                       cases e173
                       (try simp only [show (99 : Int).toNat = 99 from rfl, Nat.reduceMul, Nat.reduceEqDiff, Go.Addr.add, ↓reduceIte] at hx173_0)
                       (try simp only [show (99 : Int).toNat = 99 from rfl, Nat.reduceMul, Nat.reduceEqDiff, Go.Addr.add, ↓reduceIte] at hx173_1)
                       have qi173 : (99 < t169.length) = True := eq_true (by omega)
                       (try rw [show ((99 : Int)).toNat = 99 from rfl] at hx173_0)
                       (try rw [show 99 * 2 = 198 from rfl] at hx173_0)
                       (try rw [show ((99 : Int)).toNat = 99 from rfl] at hx173_1)
                       (try rw [show 99 * 2 = 198 from rfl] at hx173_1)
                       replace p173 := eq_true p173
                       replace q173 := eq_true q173
                       go_wp2_with (first | ((with_reducible refine gate_callee (f := 17) rfl ?_); refine goesL_ (some 52) rfl rfl Try.func17 (by kernel_rfl) rfl #[.agg #[.int .i64 0, .slice none 0 0], .agg #[.int .i64 ((rd_T33 t169 99).f0), .int .u64 ((rd_T33 t169 99).f1)]] rfl (by (try simp only [List.map_toArray, List.map_cons, List.map_nil]); first | done | rfl | (simp only [List.length_drop, List.length_take]; rfl)) ?_; (refine (huff_Put.calls kj9 0 (fun k_ => some k_ = (.slice none 0 0 : Value).ownBlock) (.slice none 0 0) ([] : List Int) ((rd_T33 t169 99).f0) ((rd_T33 t169 99).f1) t174 t175 t178 w _ ?side1 ?side2 A28.out).mono ?_); (case side1 => repeat (first | (with_reducible first | exact HB.out | apply below_alloc | apply pw_below_drewN | apply below_drew1) | exact HB.out)); (case side2 => exact Kd.R_nil _ _ _ _ _); rintro e w47 ⟨v176, rfl, ho0, hb, hkp⟩; refine ⟨_, rfl, ?_⟩; have n0_ := Aside0.mk (Kd.R_mono (ok' := fun k_ => some k_ ≠ (.slice Ao20 t165.length co20 : Value).ownBlock) (Kd.R_keptB (HO_1.out) hkp (fun k_ hk_ hs_ => (fun e_ => by simp [Value.ownBlock] at e_) hs_)) (fun k_ hk_ => hk_.1)); have n1_ := Aside0.mk (Kd.R_mono (ok' := fun k_ => some k_ ≠ (.slice (some ⟨go3, 0, none⟩) y164.length co3 : Value).ownBlock) (Kd.R_keptB (HO_2.out) hkp (fun k_ hk_ hs_ => (fun e_ => by simp [Value.ownBlock] at e_) hs_)) (fun k_ hk_ => hk_.1)); have n2_ := Aside0.mk (Kd.R_mono (ok' := fun k_ => True) (Kd.R_keptB (HO_4.out) hkp (fun k_ hk_ hs_ => (fun e_ => by simp [Value.ownBlock] at e_) hs_)) (fun k_ hk_ => trivial)); have n3_ := Aside0.mk (Kd.R_mono (ok' := fun k_ => True) ho0 (fun k_ hk_ => trivial)); have n4_ := Aside0.mk (hb); clear HO_1; clear HO_2; clear HO_4; clear HB; have HO_1 := n0_; have HO_2 := n1_; have HO_4 := n2_; have HO177 := n3_; have HB := n4_; clear n0_ n1_ n2_ n3_ n4_; (try clear hb); (try clear hkp); (try clear ho0)) | ((with_reducible refine gate_dst (N := 6) rfl ?_); (try (refine gate_guard (by rfl) ?_; dsimp only)); refine box_event ?hg (N := 6) ?hd (cs := #[.int .i64 0, .slice none 0 0]) (t := 45) ?hr ?_; (case hd => rfl); (case hg => rfl); (case hr => first | (go_simp; done) | (go_simp; rfl)); intro gb179 hg w48 hbox hb; have n0_ := Aside0.mk (Kd.R_below (by (with_reducible repeat (first | apply Kd.R_alloc | apply Kd.R_drewN | apply Kd.R_drew)); exact HO_1.out) hb); have n1_ := Aside0.mk (Kd.R_below (by (with_reducible repeat (first | apply Kd.R_alloc | apply Kd.R_drewN | apply Kd.R_drew)); exact HO_2.out) hb); have n2_ := Aside0.mk (Kd.R_below (by (with_reducible repeat (first | apply Kd.R_alloc | apply Kd.R_drewN | apply Kd.R_drew)); exact HO_4.out) hb); have n3_ := Aside0.mk (Kd.R_below (by (with_reducible repeat (first | apply Kd.R_alloc | apply Kd.R_drewN | apply Kd.R_drew)); exact HO177.out) hb); have n4_ := Aside0.mk (below_step (by repeat (first | (with_reducible first | exact HB.out | apply below_alloc | apply pw_below_drewN | apply below_drew1) | exact HB.out)) hb); have n5_ := Aside0.mk (hbox); have n6_ := Aside0.mk ((by rw [hg]; exact (below_size (by repeat (first | (with_reducible first | exact HB.out | apply below_alloc | apply pw_below_drewN | apply below_drew1) | exact HB.out))) : w.heap.size ≤ gb179)); have n7_ := Aside0.mk ((by rw [hg]; exact (below_size (by repeat (first | (with_reducible first | exact HB.out | apply below_alloc | apply pw_below_drewN | apply below_drew1) | exact HB.out))) : w.heap.size ≤ gb179)); clear HO_1; clear HO_2; clear HO_4; clear HO177; clear HB; have HO_1 := n0_; have HO_2 := n1_; have HO_4 := n2_; have HO177 := n3_; have HB := n4_; have BK179 := n5_; have GW179 := n6_; have GE179 := n7_; clear n0_ n1_ n2_ n3_ n4_ n5_ n6_ n7_; clear hb hbox hg; have hcz49_0 : w48.cell? ⟨gb179, 0, none⟩ = some (.int .i64 0) := (blk_cell BK179.out 0).trans rfl; have hcz49_1 : w48.cell? ⟨gb179, 1, none⟩ = some (.slice none 0 0) := (blk_cell BK179.out 1).trans rfl; have hfz49_0 := blk_frozen BK179.out 0; have hfz49_1 := blk_frozen BK179.out 1; obtain ⟨Ao50, co50, eo50⟩ := Kd.R_slice HO177.out; subst eo50) | ((with_reducible refine gate_callee (f := 18) rfl ?_); refine goesL_ (some 58) rfl rfl Try.func18 (by kernel_rfl) rfl #[.slice (some ad173) t169.length co46, .agg #[.int .i64 t174, .slice Ao50 t175.length co50], .int .i64 0] rfl (by (try simp only [List.map_toArray, List.map_cons, List.map_nil]); first | done | rfl | (simp only [List.length_drop, List.length_take]; rfl)) ?_; (with_reducible refine (huff_Next.calls _ _ t169 t174 _ _ t175 0 t180 t181 t182 _ ?side1 ?side2 ?side3 ?side4 A29.out).mono ?_); (case side1 => refine (Kd.R_reads' (e := 33) (base := w.heap.size) (ok := fun k_ => True) (n := t169.length) (c := co46) ?_).2.2; exact (by (with_reducible repeat (first | apply Kd.R_alloc | apply Kd.R_drewN | apply Kd.R_drew)); exact (Kd.R_mono (Kd.R_far (p := ⟨gb179, 1, none⟩) (Kd.R_far (p := ⟨gb179, 0, none⟩) (Kd.R_types HO_4.out BK179.out (by decide)) (fun _ hk => hk.2) (.int .i64 t174)) (fun _ hk => hk.2) (.slice Ao50 t175.length co50)) (fun _ h_ => h_.1)))); (case side2 => exact (Kd.R_reads' HO_4.out).2.1); (case side3 => refine (Kd.R_reads' (e := 31) (base := w.heap.size) (ok := fun k_ => True) (n := t175.length) (c := co50) ?_).2.2; exact (by (with_reducible repeat (first | apply Kd.R_alloc | apply Kd.R_drewN | apply Kd.R_drew)); exact (Kd.R_mono (Kd.R_far (p := ⟨gb179, 1, none⟩) (Kd.R_far (p := ⟨gb179, 0, none⟩) (Kd.R_types HO177.out BK179.out (by decide)) (fun _ hk => hk.2) (.int .i64 t174)) (fun _ hk => hk.2) (.slice Ao50 t175.length co50)) (fun _ h_ => h_.1)))); (case side4 => exact (Kd.R_reads' HO177.out).2.1); rintro e w51 ⟨rfl, hb⟩; refine ⟨_, rfl, ?_⟩; have n0_ := Aside0.mk (Kd.R_below (by (with_reducible repeat (first | apply Kd.R_alloc | apply Kd.R_drewN | apply Kd.R_drew)); exact (Kd.R_mono (Kd.R_far (p := ⟨gb179, 1, none⟩) (Kd.R_far (p := ⟨gb179, 0, none⟩) (Kd.R_types HO_1.out BK179.out (by decide)) (fun _ hk => hk.2) (.int .i64 t174)) (fun _ hk => hk.2) (.slice Ao50 t175.length co50)) (fun _ h_ => h_.1))) hb); have n1_ := Aside0.mk (Kd.R_below (by (with_reducible repeat (first | apply Kd.R_alloc | apply Kd.R_drewN | apply Kd.R_drew)); exact (Kd.R_mono (Kd.R_far (p := ⟨gb179, 1, none⟩) (Kd.R_far (p := ⟨gb179, 0, none⟩) (Kd.R_types HO_2.out BK179.out (by decide)) (fun _ hk => hk.2) (.int .i64 t174)) (fun _ hk => hk.2) (.slice Ao50 t175.length co50)) (fun _ h_ => h_.1))) hb); have n2_ := Aside0.mk (Kd.R_below (by (with_reducible repeat (first | apply Kd.R_alloc | apply Kd.R_drewN | apply Kd.R_drew)); exact (Kd.R_mono (Kd.R_far (p := ⟨gb179, 1, none⟩) (Kd.R_far (p := ⟨gb179, 0, none⟩) (Kd.R_types HO_4.out BK179.out (by decide)) (fun _ hk => hk.2) (.int .i64 t174)) (fun _ hk => hk.2) (.slice Ao50 t175.length co50)) (fun _ h_ => h_.1))) hb); have n3_ := Aside0.mk (Kd.R_below (by (with_reducible repeat (first | apply Kd.R_alloc | apply Kd.R_drewN | apply Kd.R_drew)); exact (Kd.R_mono (Kd.R_far (p := ⟨gb179, 1, none⟩) (Kd.R_far (p := ⟨gb179, 0, none⟩) (Kd.R_types HO177.out BK179.out (by decide)) (fun _ hk => hk.2) (.int .i64 t174)) (fun _ hk => hk.2) (.slice Ao50 t175.length co50)) (fun _ h_ => h_.1))) hb); have n4_ := Aside0.mk (blk_below (g := gb179) (o := .cells #[.int .i64 t174, .slice Ao50 t175.length co50] 45 (0, 0)) (by (with_reducible repeat (first | refine blk_drewN ?_ _ | refine blk_drew ?_ | refine blk_alloc ?_ _)); refine blk_put (cs := #[.int .i64 t174, .slice none 0 0]) ?_ 1 _ rfl; (with_reducible repeat (first | refine blk_drewN ?_ _ | refine blk_drew ?_ | refine blk_alloc ?_ _)); refine blk_put (cs := #[.int .i64 0, .slice none 0 0]) ?_ 0 _ rfl; (with_reducible repeat (first | refine blk_drewN ?_ _ | refine blk_drew ?_ | refine blk_alloc ?_ _)); exact BK179.out) hb); have n5_ := Aside0.mk (below_step (by repeat (first | (with_reducible first | exact HB.out | apply below_alloc | apply pw_below_drewN | apply below_drew1 | refine below_set ?_ GE179.out) | exact HB.out)) hb); clear HO_1; clear HO_2; clear HO_4; clear HO177; clear BK179; clear HB; have HO_1 := n0_; have HO_2 := n1_; have HO_4 := n2_; have HO177 := n3_; have BK179 := n4_; have HB := n5_; clear n0_ n1_ n2_ n3_ n4_ n5_; (try clear hb); (try clear hb2); (try clear hk); (try clear hi); have hcz52_0 : w51.cell? ⟨gb179, 0, none⟩ = some (.int .i64 t174) := (blk_cell BK179.out 0).trans rfl; have hcz52_1 : w51.cell? ⟨gb179, 1, none⟩ = some (.slice Ao50 t175.length co50) := (blk_cell BK179.out 1).trans rfl; have hfz52_0 := blk_frozen BK179.out 0; have hfz52_1 := blk_frozen BK179.out 1) | ((with_reducible refine gate_callee (f := 18) rfl ?_); refine goesL_ (some 66) rfl rfl Try.func18 (by kernel_rfl) rfl #[.slice (some ad173) t169.length co46, .agg #[.int .i64 t174, .slice Ao50 t175.length co50], .int .i64 t181] rfl (by (try simp only [List.map_toArray, List.map_cons, List.map_nil]); first | done | rfl | (simp only [List.length_drop, List.length_take]; rfl)) ?_; (with_reducible refine (huff_Next.calls _ _ t169 t174 _ _ t175 t181 t183 t184 t185 _ ?side1 ?side2 ?side3 ?side4 A30.out).mono ?_); (case side1 => repeat (first | exact (Kd.R_reads' HO_4.out).2.2 | (with_reducible refine Kd.C_alloc ?_ _) | (with_reducible refine Kd.C_drewN ?_ _) | (with_reducible refine Kd.C_drew ?_))); (case side2 => exact (Kd.R_reads' HO_4.out).2.1); (case side3 => repeat (first | exact (Kd.R_reads' HO177.out).2.2 | (with_reducible refine Kd.C_alloc ?_ _) | (with_reducible refine Kd.C_drewN ?_ _) | (with_reducible refine Kd.C_drew ?_))); (case side4 => exact (Kd.R_reads' HO177.out).2.1); rintro e w53 ⟨rfl, hb⟩; refine ⟨_, rfl, ?_⟩; have n0_ := Aside0.mk (Kd.R_below (by (with_reducible repeat (first | apply Kd.R_alloc | apply Kd.R_drewN | apply Kd.R_drew)); exact HO_1.out) hb); have n1_ := Aside0.mk (Kd.R_below (by (with_reducible repeat (first | apply Kd.R_alloc | apply Kd.R_drewN | apply Kd.R_drew)); exact HO_2.out) hb); have n2_ := Aside0.mk (Kd.R_below (by (with_reducible repeat (first | apply Kd.R_alloc | apply Kd.R_drewN | apply Kd.R_drew)); exact HO_4.out) hb); have n3_ := Aside0.mk (Kd.R_below (by (with_reducible repeat (first | apply Kd.R_alloc | apply Kd.R_drewN | apply Kd.R_drew)); exact HO177.out) hb); have n4_ := Aside0.mk (blk_below (g := gb179) (o := .cells #[.int .i64 t174, .slice Ao50 t175.length co50] 45 (0, 0)) (by (with_reducible repeat (first | refine blk_drewN ?_ _ | refine blk_drew ?_ | refine blk_alloc ?_ _)); exact BK179.out) hb); have n5_ := Aside0.mk (below_step (by repeat (first | (with_reducible first | exact HB.out | apply below_alloc | apply pw_below_drewN | apply below_drew1 | refine below_set ?_ GE179.out) | exact HB.out)) hb); clear HO_1; clear HO_2; clear HO_4; clear HO177; clear BK179; clear HB; have HO_1 := n0_; have HO_2 := n1_; have HO_4 := n2_; have HO177 := n3_; have BK179 := n4_; have HB := n5_; clear n0_ n1_ n2_ n3_ n4_ n5_; (try clear hb); (try clear hb2); (try clear hk); (try clear hi); have p186 : 0 ≤ (97 : Int) := (by omega); have q186 : 97 < (t165.length : Int) := of_decide_eq_true (by first | (with_reducible assumption) | assumption); obtain ⟨ad186, e186, hx186_0⟩ := Kd.at_int (Kd.R_reads' HO_2.out).2.2 97 p186 q186; cases e186; (try simp only [show (97 : Int).toNat = 97 from rfl, Nat.reduceMul, Nat.reduceEqDiff, Go.Addr.add, ↓reduceIte] at hx186_0); have qi186 : (97 < t165.length) = True := eq_true (by omega); (try rw [show ((97 : Int)).toNat = 97 from rfl] at hx186_0); replace p186 := eq_true p186; replace q186 := eq_true q186; have p187 : 0 ≤ (98 : Int) := (by omega); have q187 : 98 < (t165.length : Int) := of_decide_eq_true (by first | (with_reducible assumption) | assumption); obtain ⟨ad187, e187, hx187_0⟩ := Kd.at_int (Kd.R_reads' HO_2.out).2.2 98 p187 q187; obtain rfl : ad186 = ad187 := (by injection e187); (try simp only [show (98 : Int).toNat = 98 from rfl, Nat.reduceMul, Nat.reduceEqDiff, Go.Addr.add, ↓reduceIte] at hx187_0); have qi187 : (98 < t165.length) = True := eq_true (by omega); (try rw [show ((98 : Int)).toNat = 98 from rfl] at hx187_0); replace p187 := eq_true p187; replace q187 := eq_true q187; have p188 : 0 ≤ (97 : Int) := (by omega); have q188 : 97 < (t169.length : Int) := of_decide_eq_true (by first | (with_reducible assumption) | assumption); obtain ⟨ad188, e188, hx188_0, hx188_1⟩ := at_T33 (Kd.R_reads' HO_4.out).2.2 97 p188 q188; obtain rfl : ad173 = ad188 := (by injection e188); (try simp only [show (97 : Int).toNat = 97 from rfl, Nat.reduceMul, Nat.reduceEqDiff, Go.Addr.add, ↓reduceIte] at hx188_0); (try simp only [show (97 : Int).toNat = 97 from rfl, Nat.reduceMul, Nat.reduceEqDiff, Go.Addr.add, ↓reduceIte] at hx188_1); have qi188 : (97 < t169.length) = True := eq_true (by omega); (try rw [show ((97 : Int)).toNat = 97 from rfl] at hx188_0); (try rw [show 97 * 2 = 194 from rfl] at hx188_0); (try rw [show ((97 : Int)).toNat = 97 from rfl] at hx188_1); (try rw [show 97 * 2 = 194 from rfl] at hx188_1); replace p188 := eq_true p188; replace q188 := eq_true q188; have p189 : 0 ≤ (98 : Int) := (by omega); have q189 : 98 < (t169.length : Int) := of_decide_eq_true (by first | (with_reducible assumption) | assumption); obtain ⟨ad189, e189, hx189_0, hx189_1⟩ := at_T33 (Kd.R_reads' HO_4.out).2.2 98 p189 q189; obtain rfl : ad173 = ad189 := (by injection e189); (try simp only [show (98 : Int).toNat = 98 from rfl, Nat.reduceMul, Nat.reduceEqDiff, Go.Addr.add, ↓reduceIte] at hx189_0); (try simp only [show (98 : Int).toNat = 98 from rfl, Nat.reduceMul, Nat.reduceEqDiff, Go.Addr.add, ↓reduceIte] at hx189_1); have qi189 : (98 < t169.length) = True := eq_true (by omega); (try rw [show ((98 : Int)).toNat = 98 from rfl] at hx189_0); (try rw [show 98 * 2 = 196 from rfl] at hx189_0); (try rw [show ((98 : Int)).toNat = 98 from rfl] at hx189_1); (try rw [show 98 * 2 = 196 from rfl] at hx189_1); replace p189 := eq_true p189; replace q189 := eq_true q189; have p190 : 0 ≤ (99 : Int) := (by omega); have q190 : 99 < (t169.length : Int) := of_decide_eq_true (by first | (with_reducible assumption) | assumption); obtain ⟨ad190, e190, hx190_0, hx190_1⟩ := at_T33 (Kd.R_reads' HO_4.out).2.2 99 p190 q190; obtain rfl : ad173 = ad190 := (by injection e190); (try simp only [show (99 : Int).toNat = 99 from rfl, Nat.reduceMul, Nat.reduceEqDiff, Go.Addr.add, ↓reduceIte] at hx190_0); (try simp only [show (99 : Int).toNat = 99 from rfl, Nat.reduceMul, Nat.reduceEqDiff, Go.Addr.add, ↓reduceIte] at hx190_1); have qi190 : (99 < t169.length) = True := eq_true (by omega); (try rw [show ((99 : Int)).toNat = 99 from rfl] at hx190_0); (try rw [show 99 * 2 = 198 from rfl] at hx190_0); (try rw [show ((99 : Int)).toNat = 99 from rfl] at hx190_1); (try rw [show 99 * 2 = 198 from rfl] at hx190_1); replace p190 := eq_true p190; replace q190 := eq_true q190) | (go_at_call 15; (with_reducible refine (huff_Cost.calls _ _ y164 _ _ t165 t191 _ ?side1 ?side2 ?side3 ?side4 A45.out).mono ?_); (case side1 => repeat (first | exact (Kd.R_reads' HO_1.out).2.2 | (with_reducible refine Kd.C_alloc ?_ _) | (with_reducible refine Kd.C_drewN ?_ _) | (with_reducible refine Kd.C_drew ?_))); (case side2 => exact (Kd.R_reads' HO_1.out).2.1); (case side3 => repeat (first | exact (Kd.R_reads' HO_2.out).2.2 | (with_reducible refine Kd.C_alloc ?_ _) | (with_reducible refine Kd.C_drewN ?_ _) | (with_reducible refine Kd.C_drew ?_))); (case side4 => exact (Kd.R_reads' HO_2.out).2.1); rintro e w' ⟨rfl, ⟨nd, rfl⟩⟩))
                       go_ret
                       exact ⟨by first | rfl | (simp [errW_none, errW_some] <;> rfl) | (simp [*, errW_none, errW_some] <;> rfl), by repeat (first | (with_reducible first | exact HB.out | apply below_alloc | apply pw_below_drewN | apply below_drew1 | refine below_set ?_ GE179.out) | exact HB.out)⟩
                      ·rw [if_neg c44] at H
                       exact absurd H (by simp)
                     ·rw [if_neg c43] at H
                      exact absurd H (by simp)
                    ·rw [if_neg c42] at H
                     exact absurd H (by simp)
                   ·rw [if_neg c41] at H
                    exact absurd H (by simp)
                  ·rw [if_neg c40] at H
                   exact absurd H (by simp)
                 ·rw [if_neg c39] at H
                  exact absurd H (by simp)
                ·rw [if_neg c38] at H
                 exact absurd H (by simp)
               ·rw [if_neg c37] at H
                exact absurd H (by simp)
              ·rw [if_neg c36] at H
               exact absurd H (by simp)
             ·rw [if_neg c35] at H
              exact absurd H (by simp)
            ·rw [if_neg c34] at H
             exact absurd H (by simp)
           ·rw [if_neg c33] at H
            exact absurd H (by simp)
          ·rw [if_neg c32] at H
           exact absurd H (by simp)
         ·rw [if_neg c31] at H
          exact absurd H (by simp)
        ·rw [if_neg c27] at H
         exact absurd H (by simp)
    ·rw [if_neg c6] at H
     exact absurd H (by simp)
   ·rw [if_neg c4] at H
    exact absurd H (by simp)
  ·rw [if_neg c2] at H
   exact absurd H (by simp)
 ·rw [if_neg c1] at H
  exact absurd H (by simp)

/-! ### haystackref11_counted: function 26 -/
def haystackref11_counted.l0 : Nat → List Int → Int → Option (Bool)
 | 0, _, _ => none
 | k + 1, x0, x3 => if x3 < (x0.length : Int) then (if 0 ≤ x3 then (if (rd x0 x3) < 0 then (some false) else (if (rd x0 x3) > 1048576 then (some false) else (haystackref11_counted.l0 k x0 (wrap64 (x3 + 1))))) else (none)) else (some ((x0.length : Int) == 256))
def haystackref11_counted.f (k : Nat) (l0 : List Int) : Option (Bool) := haystackref11_counted.l0 k l0 0
theorem haystackref11_counted.mono_l : ∀ k, (∀ y0 y1, LeO (haystackref11_counted.l0 k y0 y1) (haystackref11_counted.l0 (k + 1) y0 y1))
 | 0 => fun _ _ r h => by simp [haystackref11_counted.l0] at h
 | k + 1 => by
  have ih0 := haystackref11_counted.mono_l k
  ·intro y0 y1
   unfold haystackref11_counted.l0
   repeat' first
   | (with_reducible exact ih0 _ _)
   | (with_reducible exact LeO.refl _)
   | (with_reducible exact LeO.none _)
   | (with_reducible refine LeO.ite ?_ ?_)
   | (with_reducible refine LeO.bind ?_ (fun _ => ?_))
   | exact ih0 _ _
   | exact LeO.none _
   | refine LeO.ite ?_ ?_
   | refine LeO.bind ?_ (fun _ => ?_)
theorem haystackref11_counted.mono : ∀ a0 k, LeO (haystackref11_counted.f k a0) (haystackref11_counted.f (k + 1) a0) := by
 intro a0 k
 have ih0 := haystackref11_counted.mono_l k
 unfold haystackref11_counted.f
 repeat' first
   | (with_reducible exact ih0 _ _)
   | (with_reducible exact LeO.refl _)
   | (with_reducible exact LeO.none _)
   | (with_reducible refine LeO.ite ?_ ?_)
   | (with_reducible refine LeO.bind ?_ (fun _ => ?_))
   | exact ih0 _ _
   | exact LeO.none _
   | refine LeO.ite ?_ ?_
   | refine LeO.bind ?_ (fun _ => ?_)
set_option maxHeartbeats 8000000 in
set_option maxRecDepth 100000 in
theorem haystackref11_counted.calls (k : Nat) (A0 : Option Addr) (c0 : Nat) (l0 : List Int) (r : Bool) (w : World) (hr0 : Kd.C (Kd.int .i64) w A0 l0.length l0) (hc0 : l0.length ≤ c0) (h : haystackref11_counted.f k l0 = some r) :
  Calls Try.prog 26 #[.slice A0 l0.length c0] w fun e w' => e = .returned (.bool r) ∧ Drawn0 w w' := by
 have HR0 := Aside0.mk hr0
 have HC0 := Aside0.mk hc0
 clear hr0 hc0
 have H : (haystackref11_counted.l0 k l0 0) = some r := h
 clear h
 have H' := Aside0.mk H
 clear H
 go_enter Try.func26, Try.ntmps26
 go_wp2
 go_loopg [3] k (fun kq v3 w' => ∃ (x3_1 : Int), v3 = .int .i64 x3_1 ∧ Aside0 (haystackref11_counted.l0 kq l0 x3_1 = some r) ∧ Aside0 (kq ≤ k) ∧ Drawn0 w w')
 case atStart => exact ⟨(0), (by first | rfl | (simp; done) | (simp [*]; done)), H', ⟨Nat.le_refl _⟩, by repeat (first | exact Drawn0.refl _ | apply Drawn0.step)⟩
 case round =>
  clear H'
  obtain ⟨x3_1, rfl, HA, HK1, ⟨m1, rfl⟩⟩ := hrel
  cases gk with
  | zero => exact absurd HA.out (by simp [haystackref11_counted.l0])
  | succ k1 =>
   have H := HA.out
   clear HA
   simp only [haystackref11_counted.l0] at H
   by_cases c2 : x3_1 < (l0.length : Int)
   ·rw [if_pos c2] at H
    have c2b0 : decide (x3_1 < (l0.length : Int)) = true := decide_eq_true c2
    clear c2
    by_cases c3 : 0 ≤ x3_1
    ·rw [if_pos c3] at H
     have c3b0 : decide (0 ≤ x3_1) = true := decide_eq_true c3
     clear c3
     by_cases c4 : (rd l0 x3_1) < 0
     ·rw [if_pos c4] at H
      have c4b0 : decide ((rd l0 x3_1) < 0) = true := decide_eq_true c4
      clear c4
      obtain rfl := Option.some.inj H
      have p192 : 0 ≤ (x3_1 : Int) := of_decide_eq_true (by first | (with_reducible assumption) | assumption)
      have q192 : x3_1 < (l0.length : Int) := of_decide_eq_true (by first | (with_reducible assumption) | assumption)
      obtain ⟨ad192, e192, hx192_0⟩ := Kd.at_int HR0.out x3_1 p192 q192
      cases e192
      replace p192 := eq_true p192
      replace q192 := eq_true q192
      go_wp2
      go_ret
      exact ⟨by first | rfl | (simp; done) | (simp [*]; done), by repeat (first | exact Drawn0.refl _ | apply Drawn0.step)⟩
     ·rw [if_neg c4] at H
      have c4b0 : decide ((rd l0 x3_1) < 0) = false := decide_eq_false c4
      clear c4
      by_cases c5 : (rd l0 x3_1) > 1048576
      ·rw [if_pos c5] at H
       have c5b0 : decide (1048576 < (rd l0 x3_1)) = true := decide_eq_true c5
       clear c5
       obtain rfl := Option.some.inj H
       have p192 : 0 ≤ (x3_1 : Int) := of_decide_eq_true (by first | (with_reducible assumption) | assumption)
       have q192 : x3_1 < (l0.length : Int) := of_decide_eq_true (by first | (with_reducible assumption) | assumption)
       obtain ⟨ad192, e192, hx192_0⟩ := Kd.at_int HR0.out x3_1 p192 q192
       cases e192
       replace p192 := eq_true p192
       replace q192 := eq_true q192
       have p193 : 0 ≤ (x3_1 : Int) := of_decide_eq_true (by first | (with_reducible assumption) | assumption)
       have q193 : x3_1 < (l0.length : Int) := of_decide_eq_true (by first | (with_reducible assumption) | assumption)
       obtain ⟨ad193, e193, hx193_0⟩ := Kd.at_int HR0.out x3_1 p193 q193
       obtain rfl : ad192 = ad193 := (by injection e193)
       replace p193 := eq_true p193
       replace q193 := eq_true q193
       go_wp2
       go_ret
       exact ⟨by first | rfl | (simp; done) | (simp [*]; done), by repeat (first | exact Drawn0.refl _ | apply Drawn0.step)⟩
      ·rw [if_neg c5] at H
       have c5b0 : decide (1048576 < (rd l0 x3_1)) = false := decide_eq_false c5
       clear c5
       have H' := Aside0.mk H
       clear H
       have p192 : 0 ≤ (x3_1 : Int) := of_decide_eq_true (by first | (with_reducible assumption) | assumption)
       have q192 : x3_1 < (l0.length : Int) := of_decide_eq_true (by first | (with_reducible assumption) | assumption)
       obtain ⟨ad192, e192, hx192_0⟩ := Kd.at_int HR0.out x3_1 p192 q192
       cases e192
       replace p192 := eq_true p192
       replace q192 := eq_true q192
       have p193 : 0 ≤ (x3_1 : Int) := of_decide_eq_true (by first | (with_reducible assumption) | assumption)
       have q193 : x3_1 < (l0.length : Int) := of_decide_eq_true (by first | (with_reducible assumption) | assumption)
       obtain ⟨ad193, e193, hx193_0⟩ := Kd.at_int HR0.out x3_1 p193 q193
       obtain rfl : ad192 = ad193 := (by injection e193)
       replace p193 := eq_true p193
       replace q193 := eq_true q193
       go_wp2
       go_roundg k1
       case measure => have := HK1.out; omega
       case rel => exact ⟨(wrap64 (x3_1 + 1)), (by first | rfl | (simp; done) | (simp [*]; done)), H', ⟨by have := HK1.out; omega⟩, by repeat (first | exact Drawn0.refl _ | apply Drawn0.step)⟩
    ·rw [if_neg c3] at H
     exact absurd H (by simp)
   ·rw [if_neg c2] at H
    have c2b0 : decide (x3_1 < (l0.length : Int)) = false := decide_eq_false c2
    clear c2
    obtain rfl := Option.some.inj H
    go_wp2
    go_ret
    exact ⟨by first | rfl | (simp; done) | (simp [*]; done), by repeat (first | exact Drawn0.refl _ | apply Drawn0.step)⟩

/-! ### haystackref11_least: function 27 -/
def haystackref11_least.l0 : Nat → List (S65) → Int → Int → Option (Int)
 | 0, _, _, _ => none
 | k + 1, x0, x3, x4 => if x4 < (x0.length : Int) then (if 0 ≤ x4 then (if 0 ≤ x3 then (if x3 < (x0.length : Int) then (if ((rd_T65 x0 x4).f1) < ((rd_T65 x0 x3).f1) then (haystackref11_least.l0 k x0 x4 (wrap64 (x4 + 1))) else (if ((rd_T65 x0 x4).f1) = ((rd_T65 x0 x3).f1) then (if ((rd_T65 x0 x4).f0) < ((rd_T65 x0 x3).f0) then (haystackref11_least.l0 k x0 x4 (wrap64 (x4 + 1))) else (haystackref11_least.l0 k x0 x3 (wrap64 (x4 + 1)))) else (haystackref11_least.l0 k x0 x3 (wrap64 (x4 + 1))))) else (none)) else (none)) else (none)) else (some x3)
def haystackref11_least.f (k : Nat) (l0 : List (S65)) : Option (Int) := haystackref11_least.l0 k l0 0 1
theorem haystackref11_least.mono_l : ∀ k, (∀ y0 y1 y2, LeO (haystackref11_least.l0 k y0 y1 y2) (haystackref11_least.l0 (k + 1) y0 y1 y2))
 | 0 => fun _ _ _ r h => by simp [haystackref11_least.l0] at h
 | k + 1 => by
  have ih0 := haystackref11_least.mono_l k
  ·intro y0 y1 y2
   unfold haystackref11_least.l0
   repeat' first
   | (with_reducible exact ih0 _ _ _)
   | (with_reducible exact LeO.refl _)
   | (with_reducible exact LeO.none _)
   | (with_reducible refine LeO.ite ?_ ?_)
   | (with_reducible refine LeO.bind ?_ (fun _ => ?_))
   | exact ih0 _ _ _
   | exact LeO.none _
   | refine LeO.ite ?_ ?_
   | refine LeO.bind ?_ (fun _ => ?_)
theorem haystackref11_least.mono : ∀ a0 k, LeO (haystackref11_least.f k a0) (haystackref11_least.f (k + 1) a0) := by
 intro a0 k
 have ih0 := haystackref11_least.mono_l k
 unfold haystackref11_least.f
 repeat' first
   | (with_reducible exact ih0 _ _ _)
   | (with_reducible exact LeO.refl _)
   | (with_reducible exact LeO.none _)
   | (with_reducible refine LeO.ite ?_ ?_)
   | (with_reducible refine LeO.bind ?_ (fun _ => ?_))
   | exact ih0 _ _ _
   | exact LeO.none _
   | refine LeO.ite ?_ ?_
   | refine LeO.bind ?_ (fun _ => ?_)
set_option maxHeartbeats 8000000 in
set_option maxRecDepth 100000 in
theorem haystackref11_least.calls (k : Nat) (A0 : Option Addr) (c0 : Nat) (l0 : List (S65)) (r : Int) (w : World) (hr0 : Kd.C k65 w A0 l0.length l0) (hc0 : l0.length ≤ c0) (h : haystackref11_least.f k l0 = some r) :
  Calls Try.prog 27 #[.slice A0 l0.length c0] w fun e w' => e = .returned (.int .i64 r) ∧ Drawn0 w w' := by
 have HR0 := Aside0.mk hr0
 have HC0 := Aside0.mk hc0
 clear hr0 hc0
 have H : (haystackref11_least.l0 k l0 0 1) = some r := h
 clear h
 have H' := Aside0.mk H
 clear H
 go_enter Try.func27, Try.ntmps27
 go_wp2
 repeat (go_quiet (fail); try go_wp2)
 go_loopg [3, 4] k (fun kq v3 v4 w' => ∃ (x3_1 : Int) (x4_1 : Int), v3 = .int .i64 x3_1 ∧ v4 = .int .i64 x4_1 ∧ Aside0 (haystackref11_least.l0 kq l0 x3_1 x4_1 = some r) ∧ Aside0 (kq ≤ k) ∧ Drawn0 w w')
 case atStart => exact ⟨(0), (1), (by first | rfl | (simp; done) | (simp [*]; done)), (by first | rfl | (simp; done) | (simp [*]; done)), H', ⟨Nat.le_refl _⟩, by repeat (first | exact Drawn0.refl _ | apply Drawn0.step)⟩
 case round =>
  clear H'
  obtain ⟨x3_1, x4_1, rfl, rfl, HA, HK1, ⟨m1, rfl⟩⟩ := hrel
  cases gk with
  | zero => exact absurd HA.out (by simp [haystackref11_least.l0])
  | succ k1 =>
   have H := HA.out
   clear HA
   simp only [haystackref11_least.l0] at H
   by_cases c2 : x4_1 < (l0.length : Int)
   ·rw [if_pos c2] at H
    have c2b0 : decide (x4_1 < (l0.length : Int)) = true := decide_eq_true c2
    clear c2
    by_cases c3 : 0 ≤ x4_1
    ·rw [if_pos c3] at H
     have c3b0 : decide (0 ≤ x4_1) = true := decide_eq_true c3
     clear c3
     by_cases c4 : 0 ≤ x3_1
     ·rw [if_pos c4] at H
      have c4b0 : decide (0 ≤ x3_1) = true := decide_eq_true c4
      clear c4
      by_cases c5 : x3_1 < (l0.length : Int)
      ·rw [if_pos c5] at H
       have c5b0 : decide (x3_1 < (l0.length : Int)) = true := decide_eq_true c5
       clear c5
       by_cases c6 : ((rd_T65 l0 x4_1).f1) < ((rd_T65 l0 x3_1).f1)
       ·rw [if_pos c6] at H
        have c6b0 : decide (((rd_T65 l0 x4_1).f1) < ((rd_T65 l0 x3_1).f1)) = true := decide_eq_true c6
        clear c6
        have H' := Aside0.mk H
        clear H
        have p194 : 0 ≤ (x4_1 : Int) := of_decide_eq_true (by first | (with_reducible assumption) | assumption)
        have q194 : x4_1 < (l0.length : Int) := of_decide_eq_true (by first | (with_reducible assumption) | assumption)
        obtain ⟨ad194, A194_2, c194_2, e194, hx194_0, hx194_1, hx194_2, hl194_2, hi194_2⟩ := at_T65 HR0.out x4_1 p194 q194
        cases e194
        have HR194_2 := Aside0.mk hi194_2
        have HC194_2 := Aside0.mk hl194_2
        clear hi194_2 hl194_2
        replace p194 := eq_true p194
        replace q194 := eq_true q194
        have p195 : 0 ≤ (x3_1 : Int) := of_decide_eq_true (by first | (with_reducible assumption) | assumption)
        have q195 : x3_1 < (l0.length : Int) := of_decide_eq_true (by first | (with_reducible assumption) | assumption)
        obtain ⟨ad195, A195_2, c195_2, e195, hx195_0, hx195_1, hx195_2, hl195_2, hi195_2⟩ := at_T65 HR0.out x3_1 p195 q195
        obtain rfl : ad194 = ad195 := (by injection e195)
        have HR195_2 := Aside0.mk hi195_2
        have HC195_2 := Aside0.mk hl195_2
        clear hi195_2 hl195_2
        replace p195 := eq_true p195
        replace q195 := eq_true q195
        go_wp2
        repeat (go_quiet (fail); try go_wp2)
        go_roundg k1
        case measure => have := HK1.out; omega
        case rel => exact ⟨(x4_1), (wrap64 (x4_1 + 1)), (by first | rfl | (simp; done) | (simp [*]; done)), (by first | rfl | (simp; done) | (simp [*]; done)), H', ⟨by have := HK1.out; omega⟩, by repeat (first | exact Drawn0.refl _ | apply Drawn0.step)⟩
       ·rw [if_neg c6] at H
        have c6b0 : decide (((rd_T65 l0 x4_1).f1) < ((rd_T65 l0 x3_1).f1)) = false := decide_eq_false c6
        clear c6
        by_cases c7 : ((rd_T65 l0 x4_1).f1) = ((rd_T65 l0 x3_1).f1)
        ·rw [if_pos c7] at H
         have c7b0 : (((rd_T65 l0 x4_1).f1) == ((rd_T65 l0 x3_1).f1)) = true := beq_iff_eq.mpr c7
         have c7b1 : (((rd_T65 l0 x4_1).f1) != ((rd_T65 l0 x3_1).f1)) = false := bne_eq_false_iff_eq.mpr c7
         clear c7
         by_cases c8 : ((rd_T65 l0 x4_1).f0) < ((rd_T65 l0 x3_1).f0)
         ·rw [if_pos c8] at H
          have c8b0 : decide (((rd_T65 l0 x4_1).f0) < ((rd_T65 l0 x3_1).f0)) = true := decide_eq_true c8
          clear c8
          have H' := Aside0.mk H
          clear H
          have p194 : 0 ≤ (x4_1 : Int) := of_decide_eq_true (by first | (with_reducible assumption) | assumption)
          have q194 : x4_1 < (l0.length : Int) := of_decide_eq_true (by first | (with_reducible assumption) | assumption)
          obtain ⟨ad194, A194_2, c194_2, e194, hx194_0, hx194_1, hx194_2, hl194_2, hi194_2⟩ := at_T65 HR0.out x4_1 p194 q194
          cases e194
          have HR194_2 := Aside0.mk hi194_2
          have HC194_2 := Aside0.mk hl194_2
          clear hi194_2 hl194_2
          replace p194 := eq_true p194
          replace q194 := eq_true q194
          have p195 : 0 ≤ (x3_1 : Int) := of_decide_eq_true (by first | (with_reducible assumption) | assumption)
          have q195 : x3_1 < (l0.length : Int) := of_decide_eq_true (by first | (with_reducible assumption) | assumption)
          obtain ⟨ad195, A195_2, c195_2, e195, hx195_0, hx195_1, hx195_2, hl195_2, hi195_2⟩ := at_T65 HR0.out x3_1 p195 q195
          obtain rfl : ad194 = ad195 := (by injection e195)
          have HR195_2 := Aside0.mk hi195_2
          have HC195_2 := Aside0.mk hl195_2
          clear hi195_2 hl195_2
          replace p195 := eq_true p195
          replace q195 := eq_true q195
          have p196 : 0 ≤ (x4_1 : Int) := of_decide_eq_true (by first | (with_reducible assumption) | assumption)
          have q196 : x4_1 < (l0.length : Int) := of_decide_eq_true (by first | (with_reducible assumption) | assumption)
          obtain ⟨ad196, A196_2, c196_2, e196, hx196_0, hx196_1, hx196_2, hl196_2, hi196_2⟩ := at_T65 HR0.out x4_1 p196 q196
          obtain rfl : ad194 = ad196 := (by injection e196)
          have HR196_2 := Aside0.mk hi196_2
          have HC196_2 := Aside0.mk hl196_2
          clear hi196_2 hl196_2
          replace p196 := eq_true p196
          replace q196 := eq_true q196
          have ea_ := Option.some.inj (hx194_2.symm.trans hx196_2)
          injection ea_ with ea_ en_ ec_
          subst ea_
          subst ec_
          clear en_
          have p197 : 0 ≤ (x3_1 : Int) := of_decide_eq_true (by first | (with_reducible assumption) | assumption)
          have q197 : x3_1 < (l0.length : Int) := of_decide_eq_true (by first | (with_reducible assumption) | assumption)
          obtain ⟨ad197, A197_2, c197_2, e197, hx197_0, hx197_1, hx197_2, hl197_2, hi197_2⟩ := at_T65 HR0.out x3_1 p197 q197
          obtain rfl : ad194 = ad197 := (by injection e197)
          have HR197_2 := Aside0.mk hi197_2
          have HC197_2 := Aside0.mk hl197_2
          clear hi197_2 hl197_2
          replace p197 := eq_true p197
          replace q197 := eq_true q197
          have ea_ := Option.some.inj (hx195_2.symm.trans hx197_2)
          injection ea_ with ea_ en_ ec_
          subst ea_
          subst ec_
          clear en_
          have p198 : 0 ≤ (x4_1 : Int) := of_decide_eq_true (by first | (with_reducible assumption) | assumption)
          have q198 : x4_1 < (l0.length : Int) := of_decide_eq_true (by first | (with_reducible assumption) | assumption)
          obtain ⟨ad198, A198_2, c198_2, e198, hx198_0, hx198_1, hx198_2, hl198_2, hi198_2⟩ := at_T65 HR0.out x4_1 p198 q198
          obtain rfl : ad194 = ad198 := (by injection e198)
          have HR198_2 := Aside0.mk hi198_2
          have HC198_2 := Aside0.mk hl198_2
          clear hi198_2 hl198_2
          replace p198 := eq_true p198
          replace q198 := eq_true q198
          have ea_ := Option.some.inj (hx194_2.symm.trans hx198_2)
          injection ea_ with ea_ en_ ec_
          subst ea_
          subst ec_
          clear en_
          have p199 : 0 ≤ (x3_1 : Int) := of_decide_eq_true (by first | (with_reducible assumption) | assumption)
          have q199 : x3_1 < (l0.length : Int) := of_decide_eq_true (by first | (with_reducible assumption) | assumption)
          obtain ⟨ad199, A199_2, c199_2, e199, hx199_0, hx199_1, hx199_2, hl199_2, hi199_2⟩ := at_T65 HR0.out x3_1 p199 q199
          obtain rfl : ad194 = ad199 := (by injection e199)
          have HR199_2 := Aside0.mk hi199_2
          have HC199_2 := Aside0.mk hl199_2
          clear hi199_2 hl199_2
          replace p199 := eq_true p199
          replace q199 := eq_true q199
          have ea_ := Option.some.inj (hx195_2.symm.trans hx199_2)
          injection ea_ with ea_ en_ ec_
          subst ea_
          subst ec_
          clear en_
          go_wp2
          repeat (go_quiet (fail); try go_wp2)
          go_roundg k1
          case measure => have := HK1.out; omega
          case rel => exact ⟨(x4_1), (wrap64 (x4_1 + 1)), (by first | rfl | (simp; done) | (simp [*]; done)), (by first | rfl | (simp; done) | (simp [*]; done)), H', ⟨by have := HK1.out; omega⟩, by repeat (first | exact Drawn0.refl _ | apply Drawn0.step)⟩
         ·rw [if_neg c8] at H
          have c8b0 : decide (((rd_T65 l0 x4_1).f0) < ((rd_T65 l0 x3_1).f0)) = false := decide_eq_false c8
          clear c8
          have H' := Aside0.mk H
          clear H
          have p194 : 0 ≤ (x4_1 : Int) := of_decide_eq_true (by first | (with_reducible assumption) | assumption)
          have q194 : x4_1 < (l0.length : Int) := of_decide_eq_true (by first | (with_reducible assumption) | assumption)
          obtain ⟨ad194, A194_2, c194_2, e194, hx194_0, hx194_1, hx194_2, hl194_2, hi194_2⟩ := at_T65 HR0.out x4_1 p194 q194
          cases e194
          have HR194_2 := Aside0.mk hi194_2
          have HC194_2 := Aside0.mk hl194_2
          clear hi194_2 hl194_2
          replace p194 := eq_true p194
          replace q194 := eq_true q194
          have p195 : 0 ≤ (x3_1 : Int) := of_decide_eq_true (by first | (with_reducible assumption) | assumption)
          have q195 : x3_1 < (l0.length : Int) := of_decide_eq_true (by first | (with_reducible assumption) | assumption)
          obtain ⟨ad195, A195_2, c195_2, e195, hx195_0, hx195_1, hx195_2, hl195_2, hi195_2⟩ := at_T65 HR0.out x3_1 p195 q195
          obtain rfl : ad194 = ad195 := (by injection e195)
          have HR195_2 := Aside0.mk hi195_2
          have HC195_2 := Aside0.mk hl195_2
          clear hi195_2 hl195_2
          replace p195 := eq_true p195
          replace q195 := eq_true q195
          have p196 : 0 ≤ (x4_1 : Int) := of_decide_eq_true (by first | (with_reducible assumption) | assumption)
          have q196 : x4_1 < (l0.length : Int) := of_decide_eq_true (by first | (with_reducible assumption) | assumption)
          obtain ⟨ad196, A196_2, c196_2, e196, hx196_0, hx196_1, hx196_2, hl196_2, hi196_2⟩ := at_T65 HR0.out x4_1 p196 q196
          obtain rfl : ad194 = ad196 := (by injection e196)
          have HR196_2 := Aside0.mk hi196_2
          have HC196_2 := Aside0.mk hl196_2
          clear hi196_2 hl196_2
          replace p196 := eq_true p196
          replace q196 := eq_true q196
          have ea_ := Option.some.inj (hx194_2.symm.trans hx196_2)
          injection ea_ with ea_ en_ ec_
          subst ea_
          subst ec_
          clear en_
          have p197 : 0 ≤ (x3_1 : Int) := of_decide_eq_true (by first | (with_reducible assumption) | assumption)
          have q197 : x3_1 < (l0.length : Int) := of_decide_eq_true (by first | (with_reducible assumption) | assumption)
          obtain ⟨ad197, A197_2, c197_2, e197, hx197_0, hx197_1, hx197_2, hl197_2, hi197_2⟩ := at_T65 HR0.out x3_1 p197 q197
          obtain rfl : ad194 = ad197 := (by injection e197)
          have HR197_2 := Aside0.mk hi197_2
          have HC197_2 := Aside0.mk hl197_2
          clear hi197_2 hl197_2
          replace p197 := eq_true p197
          replace q197 := eq_true q197
          have ea_ := Option.some.inj (hx195_2.symm.trans hx197_2)
          injection ea_ with ea_ en_ ec_
          subst ea_
          subst ec_
          clear en_
          have p198 : 0 ≤ (x4_1 : Int) := of_decide_eq_true (by first | (with_reducible assumption) | assumption)
          have q198 : x4_1 < (l0.length : Int) := of_decide_eq_true (by first | (with_reducible assumption) | assumption)
          obtain ⟨ad198, A198_2, c198_2, e198, hx198_0, hx198_1, hx198_2, hl198_2, hi198_2⟩ := at_T65 HR0.out x4_1 p198 q198
          obtain rfl : ad194 = ad198 := (by injection e198)
          have HR198_2 := Aside0.mk hi198_2
          have HC198_2 := Aside0.mk hl198_2
          clear hi198_2 hl198_2
          replace p198 := eq_true p198
          replace q198 := eq_true q198
          have ea_ := Option.some.inj (hx194_2.symm.trans hx198_2)
          injection ea_ with ea_ en_ ec_
          subst ea_
          subst ec_
          clear en_
          have p199 : 0 ≤ (x3_1 : Int) := of_decide_eq_true (by first | (with_reducible assumption) | assumption)
          have q199 : x3_1 < (l0.length : Int) := of_decide_eq_true (by first | (with_reducible assumption) | assumption)
          obtain ⟨ad199, A199_2, c199_2, e199, hx199_0, hx199_1, hx199_2, hl199_2, hi199_2⟩ := at_T65 HR0.out x3_1 p199 q199
          obtain rfl : ad194 = ad199 := (by injection e199)
          have HR199_2 := Aside0.mk hi199_2
          have HC199_2 := Aside0.mk hl199_2
          clear hi199_2 hl199_2
          replace p199 := eq_true p199
          replace q199 := eq_true q199
          have ea_ := Option.some.inj (hx195_2.symm.trans hx199_2)
          injection ea_ with ea_ en_ ec_
          subst ea_
          subst ec_
          clear en_
          go_wp2
          repeat (go_quiet (fail); try go_wp2)
          go_roundg k1
          case measure => have := HK1.out; omega
          case rel => exact ⟨(x3_1), (wrap64 (x4_1 + 1)), (by first | rfl | (simp; done) | (simp [*]; done)), (by first | rfl | (simp; done) | (simp [*]; done)), H', ⟨by have := HK1.out; omega⟩, by repeat (first | exact Drawn0.refl _ | apply Drawn0.step)⟩
        ·rw [if_neg c7] at H
         have c7b0 : (((rd_T65 l0 x4_1).f1) == ((rd_T65 l0 x3_1).f1)) = false := beq_eq_false_iff_ne.mpr c7
         have c7b1 : (((rd_T65 l0 x4_1).f1) != ((rd_T65 l0 x3_1).f1)) = true := bne_iff_ne.mpr c7
         have H' := Aside0.mk H
         clear H
         have p194 : 0 ≤ (x4_1 : Int) := of_decide_eq_true (by first | (with_reducible assumption) | assumption)
         have q194 : x4_1 < (l0.length : Int) := of_decide_eq_true (by first | (with_reducible assumption) | assumption)
         obtain ⟨ad194, A194_2, c194_2, e194, hx194_0, hx194_1, hx194_2, hl194_2, hi194_2⟩ := at_T65 HR0.out x4_1 p194 q194
         cases e194
         have HR194_2 := Aside0.mk hi194_2
         have HC194_2 := Aside0.mk hl194_2
         clear hi194_2 hl194_2
         replace p194 := eq_true p194
         replace q194 := eq_true q194
         have p195 : 0 ≤ (x3_1 : Int) := of_decide_eq_true (by first | (with_reducible assumption) | assumption)
         have q195 : x3_1 < (l0.length : Int) := of_decide_eq_true (by first | (with_reducible assumption) | assumption)
         obtain ⟨ad195, A195_2, c195_2, e195, hx195_0, hx195_1, hx195_2, hl195_2, hi195_2⟩ := at_T65 HR0.out x3_1 p195 q195
         obtain rfl : ad194 = ad195 := (by injection e195)
         have HR195_2 := Aside0.mk hi195_2
         have HC195_2 := Aside0.mk hl195_2
         clear hi195_2 hl195_2
         replace p195 := eq_true p195
         replace q195 := eq_true q195
         have p196 : 0 ≤ (x4_1 : Int) := of_decide_eq_true (by first | (with_reducible assumption) | assumption)
         have q196 : x4_1 < (l0.length : Int) := of_decide_eq_true (by first | (with_reducible assumption) | assumption)
         obtain ⟨ad196, A196_2, c196_2, e196, hx196_0, hx196_1, hx196_2, hl196_2, hi196_2⟩ := at_T65 HR0.out x4_1 p196 q196
         obtain rfl : ad194 = ad196 := (by injection e196)
         have HR196_2 := Aside0.mk hi196_2
         have HC196_2 := Aside0.mk hl196_2
         clear hi196_2 hl196_2
         replace p196 := eq_true p196
         replace q196 := eq_true q196
         have ea_ := Option.some.inj (hx194_2.symm.trans hx196_2)
         injection ea_ with ea_ en_ ec_
         subst ea_
         subst ec_
         clear en_
         have p197 : 0 ≤ (x3_1 : Int) := of_decide_eq_true (by first | (with_reducible assumption) | assumption)
         have q197 : x3_1 < (l0.length : Int) := of_decide_eq_true (by first | (with_reducible assumption) | assumption)
         obtain ⟨ad197, A197_2, c197_2, e197, hx197_0, hx197_1, hx197_2, hl197_2, hi197_2⟩ := at_T65 HR0.out x3_1 p197 q197
         obtain rfl : ad194 = ad197 := (by injection e197)
         have HR197_2 := Aside0.mk hi197_2
         have HC197_2 := Aside0.mk hl197_2
         clear hi197_2 hl197_2
         replace p197 := eq_true p197
         replace q197 := eq_true q197
         have ea_ := Option.some.inj (hx195_2.symm.trans hx197_2)
         injection ea_ with ea_ en_ ec_
         subst ea_
         subst ec_
         clear en_
         go_wp2
         repeat (go_quiet (fail); try go_wp2)
         go_roundg k1
         case measure => have := HK1.out; omega
         case rel => exact ⟨(x3_1), (wrap64 (x4_1 + 1)), (by first | rfl | (simp; done) | (simp [*]; done)), (by first | rfl | (simp; done) | (simp [*]; done)), H', ⟨by have := HK1.out; omega⟩, by repeat (first | exact Drawn0.refl _ | apply Drawn0.step)⟩
      ·rw [if_neg c5] at H
       exact absurd H (by simp)
     ·rw [if_neg c4] at H
      exact absurd H (by simp)
    ·rw [if_neg c3] at H
     exact absurd H (by simp)
   ·rw [if_neg c2] at H
    have c2b0 : decide (x4_1 < (l0.length : Int)) = false := decide_eq_false c2
    have c2b0L_ := c2b0
    (try simp only [hl194_2] at c2b0L_); (try simp only [hl195_2] at c2b0L_); (try simp only [hl196_2] at c2b0L_); (try simp only [hl197_2] at c2b0L_); (try simp only [hl198_2] at c2b0L_); (try simp only [hl199_2] at c2b0L_)
    clear c2
    obtain rfl := Option.some.inj H
    go_wp2
    repeat (go_quiet (fail); try go_wp2)
    go_ret
    exact ⟨by first | rfl | (simp; done) | (simp [*]; done), by repeat (first | exact Drawn0.refl _ | apply Drawn0.step)⟩

end Go.Proofs.Ytceompmfmceicaa.PHuffTells
