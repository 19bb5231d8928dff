/- phase.Corr, by its contract. -/
import Derived.Test.YtihnlebpbmhpgaaYPhase
import Derived.Test.YtihnlebpbmhpgaaWMore
import Derived.Maps.AppendAt
namespace Go.Proofs.Ytihnlebpbmhpgaa.Phase
open Go.RowKit Go.Proofs.Ytihnlebpbmhpgaa.Base Go.Proofs.MathFlt Go.Proofs.YtihnlebpbmhpgaaW.PrintWords Go.Proofs.YtihnlebpbmhpgaaW.PrintMore
set_option linter.unusedVariables false
set_option linter.unusedSimpArgs false
attribute [local go_sem] run_store_complex run_store_float unary_neg_float max2_int max_two

def term1 (x y : Int) : Int := pre x * pre y - pim x * (-pim y)
def term2 (x y : Int) : Int := pre x * (-pim y) + pim x * pre y
def c1 (t p : List Int) (j : Nat) : Nat → Int
  | 0 => 0
  | k + 1 => c1 t p j k + term1 (t.getD (j + k) 0) (p.getD k 0)
def c2 (t p : List Int) (j : Nat) : Nat → Int
  | 0 => 0
  | k + 1 => c2 t p j k + term2 (t.getD (j + k) 0) (p.getD k 0)
theorem mul_abs (a b : Int) (ha : a.natAbs ≤ 1) (hb : b.natAbs ≤ 1) : (a * b).natAbs ≤ 1 := by
  rw [Int.natAbs_mul]
  exact Nat.le_trans (Nat.mul_le_mul ha hb) (by decide)
theorem term1_abs (x y : Int) : (term1 x y).natAbs ≤ 2 := by
  unfold term1
  have h1 := mul_abs _ _ (pre_abs x) (pre_abs y)
  have h2 := mul_abs _ (-pim y) (pim_abs x) (by rw [Int.natAbs_neg]; exact pim_abs y)
  omega
theorem term2_abs (x y : Int) : (term2 x y).natAbs ≤ 2 := by
  unfold term2
  have h1 := mul_abs _ (-pim y) (pre_abs x) (by rw [Int.natAbs_neg]; exact pim_abs y)
  have h2 := mul_abs _ _ (pim_abs x) (pre_abs y)
  omega
theorem c1_abs (t p : List Int) (j : Nat) : ∀ k, (c1 t p j k).natAbs ≤ 2 * k
  | 0 => by simp [c1]
  | k + 1 => by
    have h := c1_abs t p j k
    have h2 := term1_abs (t.getD (j + k) 0) (p.getD k 0)
    unfold c1
    omega
theorem c2_abs (t p : List Int) (j : Nat) : ∀ k, (c2 t p j k).natAbs ≤ 2 * k
  | 0 => by simp [c2]
  | k + 1 => by
    have h := c2_abs t p j k
    have h2 := term2_abs (t.getD (j + k) 0) (p.getD k 0)
    unfold c2
    omega
/-- What came of Corr so far. -/
def CVals (t p : List Int) (m : Nat) (vals : List Value) : Prop := vals.length = m ∧ ∀ j, j < m → CR (vals.getD j undef) (c1 t p j p.length) (c2 t p j p.length)
theorem CVals.push {t p : List Int} {m : Nat} {vals : List Value} {v : Value} (h : CVals t p m vals) (hv : CR v (c1 t p m p.length) (c2 t p m p.length)) : CVals t p (m + 1) (vals ++ [v]) := by
  refine ⟨by rw [List.length_append, h.1]; rfl, fun j hj => ?_⟩
  rw [List.getD_eq_getElem?_getD]
  by_cases e : j = m
  · subst e
    rw [List.getElem?_append_right (by rw [h.1]; exact Nat.le_refl _), h.1, Nat.sub_self]
    exact hv
  · rw [List.getElem?_append_left (by rw [h.1]; omega), ← List.getD_eq_getElem?_getD]
    exact h.2 j (by omega)
def SomeCorr (t p : List Int) (m : Nat) (W : World) (e : Ending) (w' : World) : Prop := ∃ v vals, e = .returned v ∧ w'.ownsRow W.heap.size 27 1 v m vals ∧ CVals t p m vals ∧ Below W.heap.size W w'
theorem infoC : (Try.prog.info? 27).map (fun i => (i.zero, i.size, i.bytes)) = some (some (.complex .f64 0 0), 1, 16) := by kernel_rfl

theorem bcellv {W w : World} (h : Below W.heap.size W w) {a : Addr} {v : Value} (hc : W.cell? a = some v) : w.cell? a = some v := (h.cell (World.block_lt_of_cell? W a hc)).trans hc
theorem keepS {w0 w w' : World} {a b : Addr} {x y : Value} (hb : Bd w w') (h : w.cell? a = some x ∧ w.cell? b = some y ∧ Hid (Bd w0 w)) : w'.cell? a = some x ∧ w'.cell? b = some y ∧ Hid (Bd w0 w') := ⟨hb.cell h.1, hb.cell h.2.1, Lib.hid (h.2.2.out.trans hb)⟩
set_option maxHeartbeats 8000000 in
set_option maxRecDepth 100000 in
theorem corr_any (A : Option Addr) (c : Nat) (t : List Int) (A' : Option Addr) (c' : Nat) (p : List Int) (W : World) (hn : t.length ≤ 1000) (hp : p.length ≤ 1000) (hA : ∀ k, k < t.length → ∃ ad, A = some ad ∧ W.cell? (ad.add k) = some (.int .u8 (t.getD k 0))) (hb8 : ∀ k, k < t.length → 0 ≤ t.getD k 0 ∧ t.getD k 0 < 256)
    (hA' : ∀ k, k < p.length → ∃ ad, A' = some ad ∧ W.cell? (ad.add k) = some (.int .u8 (p.getD k 0))) (hb8' : ∀ k, k < p.length → 0 ≤ p.getD k 0 ∧ p.getD k 0 < 256) (m : Nat) (hm : (m : Int) = max 0 ((t.length : Int) - p.length + 1)) :
    Calls Try.prog 7 #[.slice A t.length c, .slice A' p.length c'] W (SomeCorr t p m W) := by
  have h1 : IntKind.i64.wrap ((t.length : Int) - (p.length : Int)) = (t.length : Int) - (p.length : Int) := Go.IntWalk.i64_in _ (by omega)
  have h2 : IntKind.i64.wrap ((t.length : Int) - (p.length : Int) + 1) = (t.length : Int) - (p.length : Int) + 1 := Go.IntWalk.i64_in _ (by omega)
  have h3 : (if (0 : Int) < (t.length : Int) - (p.length : Int) + 1 then (t.length : Int) - (p.length : Int) + 1 else 0) = (m : Int) := by rw [hm]; split <;> omega
  have hmt : m ≤ t.length + 1 := by omega
  have hmp : 0 < m → m + p.length = t.length + 1 := by omega
  have HMP := Lib.hid hmp
  obtain ⟨i0, hi, hz0, hz1, hz2⟩ := info_parts infoC
  have HI := Lib.hid hi; have HZ0 := Lib.hid hz0; have HZ1 := Lib.hid hz1; have HZ2 := Lib.hid hz2
  clear hm hmp hi hz0 hz1 hz2
  go_enter Try.func7, Try.ntmps7
  go_wp2
  clear h1 h2 h3
  go_loopg [5, 16] m (fun g v5 v16 wr => ∃ (j : Nat) (vals : List Value), v16 = .int .i64 (j : Int) ∧ wr.ownsRow W.heap.size 27 1 v5 j vals ∧ Hid (CVals t p j vals) ∧ j ≤ m ∧ m - j ≤ g ∧ Hid (Below W.heap.size W wr))
  case atStart => exact ⟨0, [], rfl, World.ownsRow_nil _ _ _ _, Lib.hid ⟨rfl, fun j hj => absurd hj (Nat.not_lt_zero _)⟩, Nat.zero_le _, by omega, Lib.hid (Below.refl _ W)⟩
  case round =>
    obtain ⟨j, vals, rfl, hO, HV, hj, hg, HB⟩ := hrel
    by_cases hlt : j < m
    · have hl2 : (j : Int) < (m : Int) := by omega
      have hjm : j + p.length ≤ t.length := by have := HMP.out (by omega); omega
      have HO := Lib.hid hO
      clear hO
      go_wp2
      go_loopg [7, 21] p.length (fun g2 v7 v21 wi => ∃ k : Nat, v21 = .int .i64 (k : Int) ∧ Hid (CR v7 (c1 t p j k) (c2 t p j k)) ∧ k ≤ p.length ∧ p.length - k ≤ g2 ∧ Hid (Bd wr wi))
      case atStart => exact ⟨0, rfl, Lib.hid ⟨0, 0, rfl, rep_zero, rep_zero⟩, Nat.zero_le _, by omega, Lib.hid (Bd.refl wr)⟩
      case round =>
        obtain ⟨k, rfl, HC, hk, hg2, HB2⟩ := hrel
        by_cases hlt2 : k < p.length
        · have hl3 : (k : Int) < (p.length : Int) := by omega
          obtain ⟨ad, rfl, hca⟩ := hA (j + k) (by omega)
          obtain ⟨ad', rfl, hca'⟩ := hA' k hlt2
          have hx := hb8 (j + k) (by omega)
          have hy := hb8' k hlt2
          have e0 := HB2.out.cell (bcellv HB.out hca)
          have e1 := HB2.out.cell (bcellv HB.out hca')
          obtain ⟨x, hxe⟩ : ∃ x, x = t.getD (j + k) 0 := ⟨_, rfl⟩
          obtain ⟨y, hye⟩ : ∃ y, y = p.getD k 0 := ⟨_, rfl⟩
          rw [← hxe] at e0 hx
          rw [← hye] at e1 hy
          have hc1 := c1_abs t p j k
          have hc2 := c2_abs t p j k
          have ht1 := term1_abs x y
          have ht2 := term2_abs x y
          have a1 := mul_abs _ _ (pre_abs x) (pre_abs y)
          have a2 := mul_abs _ (-pim y) (pim_abs x) (by rw [Int.natAbs_neg]; exact pim_abs y)
          have a3 := mul_abs _ (-pim y) (pre_abs x) (by rw [Int.natAbs_neg]; exact pim_abs y)
          have a4 := mul_abs _ _ (pim_abs x) (pre_abs y)
          obtain ⟨mv, hmv, hmul⟩ := cr_mul (cr_mark x) (cr_cj y) (by omega) (by omega) (by omega) (by omega) (by omega) (by omega)
          obtain ⟨sv, hsv, hadd⟩ := cr_add HC.out hmv (by unfold term1 at ht1; omega) (by unfold term2 at ht2; omega)
          have hmul := hmul Try.prog
          have hadd := hadd Try.prog
          have HX := Lib.hid hx; have HY := Lib.hid hy; have HXE := Lib.hid hxe; have HYE := Lib.hid hye; have HSV := Lib.hid hsv
          clear hc1 hc2 ht1 ht2 a1 a2 a3 a4 hmv hsv hx hy hxe hye hca hca'
          have w1 : IntKind.i64.wrap ((j : Int) + (k : Int)) = (j : Int) + (k : Int) := Go.IntWalk.i64_in _ (by omega)
          have w2 : (0 : Int) ≤ (j : Int) + (k : Int) := by omega
          have w4 : ((j : Int) + (k : Int)).toNat = j + k := by omega
          have w3 : (j : Int) + (k : Int) < (t.length : Int) := by omega
          have HB3 := Lib.hid (Bd.refl wr)
          go_wp2
          go_region_held3 (fun w' => w'.cell? (ad.add (j + k)) = some (.int .u8 x) ∧ w'.cell? (ad'.add k) = some (.int .u8 y) ∧ Hid (Bd wr w')) (first | exact ⟨e0, e1, Lib.hid (Bd.drew _)⟩ | exact keepS hb (by assumption) | assumption) (first | (go_at_call 12; refine (mark_any _ ?_ _).mono ?_; (first | exact HX.out | exact HY.out); rintro e w'' ⟨rfl, hb⟩) | (go_at_call 15; refine (conj_mark _ _).mono ?_; rintro e w'' ⟨rfl, rfl⟩))
          have HB4 := Lib.hid (HB2.out.trans (And.right (And.right ‹_ ∧ _ ∧ Hid (Bd wr w'')›)).out)
          clear e0 e1 w1 w2 w3 w4
          go_wp2
          go_roundg (p.length - (k + 1))
          case measure => omega
          case rel =>
            refine ⟨k + 1, by go_num, Lib.hid ?_, by omega, by omega, HB4⟩
            unfold c1 c2
            rw [← HXE.out, ← HYE.out]
            exact HSV.out
        · obtain rfl : k = p.length := by omega
          have hl3 : ¬ (p.length : Int) < (p.length : Int) := by omega
          have HC2 := Lib.hid HC.out
          obtain ⟨zx, zy, hz, hzx, hzy⟩ := HC.out
          have HCV := Lib.hid hzx; have HCW := Lib.hid hzy
          subst hz
          clear HC hzx hzy
          have hO2 := own_move HO.out (fun k hk => HB2.out.below.block k (own_lt HO.out k hk))
          have hsz := HB2.out.below.size
          have hsz2 := HB.out.size
          go_wp2_with (at_builtin; refine wpList_append_own _ rfl _ _ 24 rfl W.heap.size 27 i0 (.complex .f64 0 0) 1 16 Try.underlying24 HI.out HZ0.out HZ1.out HZ2.out rfl (by decide) _ _ _ rfl (hO2.alloc _) ⟨wr.heap.size, 0, none⟩ 1 1 [.complex .f64 zx zy] rfl rfl (cell_one_new _ _ _) ?q2 ?q3 ?q4 ?q5 ?_)
          case q2 => simp [Value.oneCell']
          case q3 => unfold maxLen; omega
          case q4 => omega
          case q5 => first | omega | (simp; omega)
          intro v' w1 hO3 hG _
          have HO3 := Lib.hid hO3
          have hbd : Below W.heap.size W w1 := ((HB.out.trans (HB2.out.below.mono hsz2)).alloc (by omega) _).grown hG (by first | omega | (simp; omega)) (fun k hk => own_base HO.out k hk)
          have HB5 := Lib.hid hbd
          clear hO3 hG hbd hO2
          go_wp2
          go_roundg (m - (j + 1))
          case measure => omega
          case rel => exact ⟨j + 1, vals ++ [.complex .f64 zx zy], by go_num, HO3.out, Lib.hid (HV.out.push HC2.out), by omega, by omega, HB5⟩
    · obtain rfl : j = m := by omega
      have hl2 : ¬ (j : Int) < (j : Int) := by omega
      have HO := Lib.hid hO
      clear hO
      go_wp2
      go_ret
      exact ⟨_, vals, rfl, HO.out, HV.out, HB.out⟩
end Go.Proofs.Ytihnlebpbmhpgaa.Phase
