/- PhaseBounds, by its contract. -/
import Derived.Test.YtihnlebpbmhpgaaYTurns
namespace Go.Proofs.Ytihnlebpbmhpgaa.Phase
open Go.RowKit Go.Shelf Go.Proofs.Ytihnlebpbmhpgaa.Base Go.Proofs.MathFlt Go.Proofs.YtihnlebpbmhpgaaW.PrintWords Go.Proofs.YtihnlebpbmhpgaaW.PrintMore
set_option linter.unusedVariables false
set_option linter.unusedSimpArgs false
attribute [local go_sem] run_store_complex run_store_float unary_neg_float max2_int max_two

theorem mark_cases (x : Int) : (pre x = 1 ∧ pim x = 0 ∧ x % 4 = 0) ∨ (pre x = 0 ∧ pim x = 1 ∧ x % 4 = 1) ∨ (pre x = -1 ∧ pim x = 0 ∧ x % 4 = 2) ∨ (pre x = 0 ∧ pim x = -1 ∧ x % 4 = 3) := by
  have : x % 4 = 0 ∨ x % 4 = 1 ∨ x % 4 = 2 ∨ x % 4 = 3 := by omega
  unfold pre pim
  rcases this with e | e | e | e <;> rw [e] <;> decide
theorem term_one (x y : Int) : (term1 x y).natAbs + (term2 x y).natAbs = 1 ∧ (term1 x y = 1 ↔ x % 4 = y % 4) := by
  unfold term1 term2
  rcases mark_cases x with ⟨e1, e2, e3⟩ | ⟨e1, e2, e3⟩ | ⟨e1, e2, e3⟩ | ⟨e1, e2, e3⟩ <;> rcases mark_cases y with ⟨f1, f2, f3⟩ | ⟨f1, f2, f3⟩ | ⟨f1, f2, f3⟩ | ⟨f1, f2, f3⟩ <;>
    rw [e1, e2, e3, f1, f2, f3] <;> decide
theorem c_abs (t p : List Int) (j : Nat) : ∀ k, (c1 t p j k).natAbs + (c2 t p j k).natAbs ≤ k
  | 0 => by simp [c1, c2]
  | k + 1 => by
    have h := c_abs t p j k
    have h2 := (term_one (t.getD (j + k) 0) (p.getD k 0)).1
    unfold c1 c2
    omega
theorem c1_full (t p : List Int) (j : Nat) : ∀ k, c1 t p j k = (k : Int) ↔ ∀ i, i < k → t.getD (j + i) 0 % 4 = p.getD i 0 % 4
  | 0 => by simp [c1]
  | k + 1 => by
    have h := c1_full t p j k
    have ha := c_abs t p j k
    have h2 := term_one (t.getD (j + k) 0) (p.getD k 0)
    constructor
    · intro e i hi
      unfold c1 at e
      have e1 : c1 t p j k = (k : Int) := by omega
      have e2 : term1 (t.getD (j + k) 0) (p.getD k 0) = 1 := by omega
      by_cases hik : i = k
      · subst hik; exact h2.2.1 e2
      · exact h.1 e1 i (by omega)
    · intro hh
      have e1 := h.2 fun i hi => hh i (by omega)
      have e2 := h2.2.2 (hh k (by omega))
      unfold c1
      omega
theorem c_self (p : List Int) (k : Nat) : c1 p p 0 k = (k : Int) ∧ c2 p p 0 k = 0 := by
  have h := (c1_full p p 0 k).2 fun i _ => by rw [Nat.zero_add]
  have := c_abs p p 0 k
  exact ⟨h, by omega⟩
theorem sq_le (a b : Int) (n : Nat) (h : a.natAbs + b.natAbs ≤ n) : a * a + b * b ≤ (n : Int) * n := by
  have e1 : a * a = ((a.natAbs * a.natAbs : Nat) : Int) := by rw [Int.natCast_mul, ← Int.natAbs_mul_self' a]
  have e2 : b * b = ((b.natAbs * b.natAbs : Nat) : Int) := by rw [Int.natCast_mul, ← Int.natAbs_mul_self' b]
  rw [e1, e2]
  have h1 := Nat.mul_le_mul h h
  rw [Nat.add_mul, Nat.mul_add, Nat.mul_add] at h1
  generalize a.natAbs * a.natAbs = A at *
  generalize b.natAbs * b.natAbs = B at *
  generalize a.natAbs * b.natAbs = C at *
  generalize b.natAbs * a.natAbs = D at *
  have h2 : ((A + B : Nat) : Int) ≤ ((n * n : Nat) : Int) := by omega
  rw [Int.natCast_mul] at h2
  omega
theorem not_gt {x y : Nat} {a b : Int} (hx : Rep x a) (hy : Rep y b) (h : a ≤ b) : (FloatKind.f64.format.order x y == some .gt) = false := by
  have e : FloatKind.f64.format.order x y = some (compare a b) := rep_order hx hy
  rw [e]
  have : compare a b ≠ .gt := by
    rw [Ne, Int.compare_eq_gt]
    omega
  cases hc : compare a b
  · rfl
  · rfl
  · exact absurd hc this

set_option maxHeartbeats 8000000 in
set_option maxRecDepth 100000 in
theorem bounds_any (A : Option Addr) (c : Nat) (t : List Int) (A' : Option Addr) (c' : Nat) (p : List Int) (W : World) (hA : ∀ k, k < t.length → ∃ ad, A = some ad ∧ W.cell? (ad.add k) = some (.int .u8 (t.getD k 0))) (hb8 : ∀ k, k < t.length → 0 ≤ t.getD k 0 ∧ t.getD k 0 < 256)
    (hA' : ∀ k, k < p.length → ∃ ad, A' = some ad ∧ W.cell? (ad.add k) = some (.int .u8 (p.getD k 0))) (hb8' : ∀ k, k < p.length → 0 ≤ p.getD k 0 ∧ p.getD k 0 < 256) :
    Calls Try.prog 3 #[.slice A t.length c, .slice A' p.length c'] W fun e w' => e = .returned (.bool true) ∧ Below W.heap.size W w' := by
  by_cases hn : t.length ≤ 1000 ∧ p.length ≤ 1000
  · obtain ⟨h1, h2⟩ := hn
    have g1 : ¬ (1000 : Int) < (t.length : Int) := by omega
    have g2 : ¬ (1000 : Int) < (p.length : Int) := by omega
    have k1 : IntKind.i64.wrap ((t.length : Int) - (p.length : Int)) = (t.length : Int) - (p.length : Int) := Go.IntWalk.i64_in _ (by omega)
    have k2 : IntKind.i64.wrap ((t.length : Int) - (p.length : Int) + 1) = (t.length : Int) - (p.length : Int) + 1 := Go.IntWalk.i64_in _ (by omega)
    obtain ⟨m, hm⟩ : ∃ m : Nat, (m : Int) = max 0 ((t.length : Int) - p.length + 1) := ⟨(max 0 ((t.length : Int) - p.length + 1)).toNat, by omega⟩
    have h3 : (if (0 : Int) < (t.length : Int) - (p.length : Int) + 1 then (t.length : Int) - (p.length : Int) + 1 else 0) = (m : Int) := by rw [hm]; split <;> omega
    have hmp : m ≤ 1001 := by omega
    have hnp : Rep (floatOfInt .f64 (p.length : Int)) (p.length : Int) := rep_of_int (p.length : Int) (by omega)
    have HNP := Lib.hid hnp
    have HM := Lib.hid hm
    clear hnp hm
    go_enter Try.func3, Try.ntmps3
    go_wp2_with fail
    refine (corr_any A c t A' c' p W h1 h2 hA hb8 hA' hb8' m HM.out).mono ?_
    rintro e w1 ⟨v, vals, rfl, hO, hV, hB⟩
    obtain ⟨f, hf⟩ := els_of hV
    have hv : ∃ a cap, v = .slice a m cap ∧ ∀ k, k < m → ∃ ad, a = some ad ∧ w1.cell? (ad.add k) = some (.complex .f64 (f k).x (f k).y) := by
      by_cases h0 : 0 < m
      · obtain ⟨g, cap, rfl, hc⟩ := row_cells hO h0 hV.1
        refine ⟨_, _, rfl, fun k hk => ⟨_, rfl, ?_⟩⟩
        rw [Addr.add_mid, Nat.zero_add, hc k hk]
        exact congrArg some (hf k hk).2.1
      · rcases hO with ⟨hl', ⟨rfl, h1⟩ | ⟨g, cap, cur, rfl, hg, hh, hle, hcm, hcs, htk⟩⟩
        · exact ⟨none, 0, by rw [h1], fun k hk => absurd hk (by omega)⟩
        · exact ⟨_, _, rfl, fun k hk => absurd hk (by omega)⟩
    obtain ⟨a, cap, rfl, hc⟩ := hv
    have HF := Lib.hid (fun k hk => And.intro (hf k hk).2.2.1 (hf k hk).2.2.2)
    have HC := Lib.hid hc
    have HB := Lib.hid hB
    clear hO hV hf hc hB
    go_wp2
    clear h3 k1 k2
    go_loopg [7] m (fun gg v7 wr => ∃ i : Nat, v7 = .int .i64 (i : Int) ∧ i ≤ m ∧ m - i ≤ gg ∧ Hid (Bd w1 wr))
    case atStart => exact ⟨0, rfl, by omega, by omega, Lib.hid (Bd.refl w1)⟩
    case round =>
      obtain ⟨i, rfl, hi, hg, HB2⟩ := hrel
      by_cases hlt : i < m
      · have hl2 : (i : Int) < (m : Int) := by omega
        obtain ⟨ad, rfl, hca⟩ := HC.out i hlt
        have e0 := HB2.out.cell hca
        obtain ⟨x, hx⟩ : ∃ x, x = (f i).x := ⟨_, rfl⟩
        obtain ⟨y, hy⟩ : ∃ y, y = (f i).y := ⟨_, rfl⟩
        have rx : Rep x (c1 t p i p.length) := by rw [hx, ← (HF.out i hlt).1]; exact (f i).hx
        have ry : Rep y (c2 t p i p.length) := by rw [hy, ← (HF.out i hlt).2]; exact (f i).hy
        rw [← hx, ← hy] at e0
        have hab := c_abs t p i p.length
        have hsq := sq_le _ _ _ hab
        generalize c1 t p i p.length = u at *
        generalize c2 t p i p.length = v at *
        have q1 := not_gt rx HNP.out (by omega)
        have q2 := not_gt ry HNP.out (by omega)
        obtain ⟨n1, en1, rn1⟩ := fb_sub rep_zero rx (by omega)
        obtain ⟨n2, en2, rn2⟩ := fb_sub rep_zero ry (by omega)
        have q3 := not_gt rn1 HNP.out (by omega)
        have q4 := not_gt rn2 HNP.out (by omega)
        have b1 : (u * u).natAbs ≤ 1000 * 1000 := by rw [Int.natAbs_mul]; exact Nat.mul_le_mul (by omega) (by omega)
        have b2 : (v * v).natAbs ≤ 1000 * 1000 := by rw [Int.natAbs_mul]; exact Nat.mul_le_mul (by omega) (by omega)
        have b3 : ((p.length : Int) * (p.length : Int)).natAbs ≤ 1000 * 1000 := by rw [Int.natAbs_mul]; exact Nat.mul_le_mul (by omega) (by omega)
        obtain ⟨s1, es1, rs1⟩ := fb_mul rx rx (by omega)
        obtain ⟨s2, es2, rs2⟩ := fb_mul ry ry (by omega)
        obtain ⟨s3, es3, rs3⟩ := fb_mul HNP.out HNP.out (by omega)
        obtain ⟨s4, es4, rs4⟩ := fb_add rs1 rs2 (by omega)
        have q5 := not_gt rs4 rs3 hsq
        have o1 := fun (t : TypeId) (w : World) => run_float_arith (P := Try.prog) w .sub t .f64 0 x n1 en1
        have o2 := fun (t : TypeId) (w : World) => run_float_arith (P := Try.prog) w .sub t .f64 0 y n2 en2
        have o3 := fun (t : TypeId) (w : World) => run_float_arith (P := Try.prog) w .mul t .f64 x x s1 es1
        have o4 := fun (t : TypeId) (w : World) => run_float_arith (P := Try.prog) w .mul t .f64 y y s2 es2
        have o5 := fun (t : TypeId) (w : World) => run_float_arith (P := Try.prog) w .mul t .f64 _ _ s3 es3
        have o6 := fun (t : TypeId) (w : World) => run_float_arith (P := Try.prog) w .add t .f64 s1 s2 s4 es4
        clear hx hy rx ry hab hsq rn1 rn2 b1 b2 b3 rs1 rs2 rs3 rs4 en1 en2 es1 es2 es3 es4 hca
        go_wp2
        go_quiet (fail)
        have HB4 := Lib.hid (HB2.out.trans (Bd.drewN wr nq))
        clear e0
        go_wp2
        go_roundg (m - (i + 1))
        case measure => omega
        case rel => exact ⟨i + 1, by go_num, by omega, by omega, HB4⟩
      · obtain rfl : i = m := by omega
        have hl2 : ¬ (i : Int) < (i : Int) := by omega
        go_wp2_with fail
        refine (corr_any A' c' p A' c' p wr h2 h2 (fun k hk => ?_) hb8' (fun k hk => ?_) hb8' 1 (by omega)).mono ?_
        · obtain ⟨ad, e, h⟩ := hA' k hk
          exact ⟨ad, e, HB2.out.cell (bcellv HB.out h)⟩
        · obtain ⟨ad, e, h⟩ := hA' k hk
          exact ⟨ad, e, HB2.out.cell (bcellv HB.out h)⟩
        rintro e w2 ⟨v, vals, rfl, hO, hV, hB3⟩
        obtain ⟨g, cap2, rfl, hc2⟩ := row_cells hO (by decide) hV.1
        have HB5 := Lib.hid ((HB.out.trans (HB2.out.below.mono HB.out.size)).trans (hB3.mono ((HB.out.trans (HB2.out.below.mono HB.out.size))).size))
        obtain ⟨x, y, he, rx, ry⟩ := hV.2 0 (by decide)
        have e0 := hc2 0 (by decide)
        rw [he] at e0
        obtain ⟨cs1, cs2⟩ := c_self p p.length
        rw [cs1] at rx
        rw [cs2] at ry
        have q1 := ord_eq rx HNP.out
        have q2 := ord_eq ry rep_zero
        rw [decide_eq_true rfl] at q1 q2
        clear hO hV hB3 hc2 he rx ry cs1 cs2
        go_wp2_with fail
        refine (heads_any w2).mono ?_
        rintro e w3 ⟨rfl, hb3⟩
        have HB4 := Lib.hid (HB5.out.trans (hb3.mono HB5.out.size))
        clear hb3 q1 q2
        go_wp2
        go_ret
        exact ⟨rfl, HB4.out⟩
  · by_cases g1 : (1000 : Int) < (t.length : Int)
    · go_enter Try.func3, Try.ntmps3
      go_wp2_with fail
      refine (heads_any W).mono ?_
      rintro e w3 ⟨rfl, hb3⟩
      go_wp2
      go_ret
      exact ⟨rfl, hb3⟩
    · have g2 : (1000 : Int) < (p.length : Int) := by omega
      go_enter Try.func3, Try.ntmps3
      go_wp2_with fail
      refine (heads_any W).mono ?_
      rintro e w3 ⟨rfl, hb3⟩
      go_wp2
      go_ret
      exact ⟨rfl, hb3⟩
end Go.Proofs.Ytihnlebpbmhpgaa.Phase
