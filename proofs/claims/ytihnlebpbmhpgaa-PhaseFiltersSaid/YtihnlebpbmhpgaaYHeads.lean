/- is, same, ref07.Numbers where all is alike; heads; PhaseTurns. -/
import Derived.Test.YtihnlebpbmhpgaaYFilter
namespace Go.Proofs.Ytihnlebpbmhpgaa.Phase
open Go.RowKit Go.Shelf Go.Proofs.Ytihnlebpbmhpgaa.Base Go.Proofs.MathFlt Go.Proofs.YtihnlebpbmhpgaaW.PrintWords
set_option linter.unusedVariables false
set_option linter.unusedSimpArgs false
attribute [local go_sem] run_store_complex run_store_float unary_neg_float

set_option maxHeartbeats 2000000 in
theorem is_true (x y : Nat) (a b : Int) (hx : Rep x a) (hy : Rep y b) (ha : a.natAbs < 2 ^ 53) (hb : b.natAbs < 2 ^ 53) (W : World) :
    Calls Try.prog 18 #[.complex .f64 x y, .agg #[.int .i64 a, .int .i64 b]] W fun e w' => e = .returned (.bool true) ∧ Bd W w' := by
  have ra : Rep (floatOfInt .f64 a) a := rep_of_int a ha
  have rb : Rep (floatOfInt .f64 b) b := rep_of_int b hb
  have q1 := ord_eq hx ra
  have q2 := ord_eq hy rb
  rw [decide_eq_true rfl] at q1 q2
  go_enter Try.func18, Try.ntmps18
  go_wp2
  go_ret
  exact ⟨rfl, Bd.alloc _ _⟩

theorem keepT {w0 w w' : World} {a b c : Addr} {x y z : Value} (hb : Bd w w') (h : w.cell? a = some x ∧ w.cell? b = some y ∧ w.cell? c = some z ∧ Hid (Bd w0 w)) : w'.cell? a = some x ∧ w'.cell? b = some y ∧ w'.cell? c = some z ∧ Hid (Bd w0 w') := ⟨hb.cell h.1, hb.cell h.2.1, hb.cell h.2.2.1, Lib.hid (h.2.2.2.out.trans hb)⟩
set_option maxHeartbeats 4000000 in
theorem same_true (n : Nat) (hn : n ≤ 1000000) (g cap h cap' : Nat) (x y : Nat → Nat) (a b : Nat → Int) (hx : ∀ k, k < n → Rep (x k) (a k) ∧ Rep (y k) (b k) ∧ (a k).natAbs < 2 ^ 53 ∧ (b k).natAbs < 2 ^ 53) (W : World)
    (hA : ∀ k, k < n → W.cell? ⟨g, k, none⟩ = some (.complex .f64 (x k) (y k))) (hB : ∀ k, k < n → W.cell? ⟨h, k * 2, none⟩ = some (.int .i64 (a k)) ∧ W.cell? ⟨h, k * 2 + 1, none⟩ = some (.int .i64 (b k))) :
    Calls Try.prog 13 #[.slice (some ⟨g, 0, none⟩) n cap, .slice (some ⟨h, 0, none⟩) n cap'] W fun e w' => e = .returned (.bool true) ∧ Bd W w' := by
  go_enter Try.func13, Try.ntmps13
  go_wp2
  go_loopg [5] n (fun gg v5 wr => ∃ i : Nat, v5 = .int .i64 (i : Int) ∧ i ≤ n ∧ n - i ≤ gg ∧ Hid (Bd W wr))
  case atStart => exact ⟨0, rfl, by omega, by omega, Lib.hid (Bd.refl W)⟩
  case round =>
    obtain ⟨i, rfl, hi, hg, HB⟩ := hrel
    by_cases hlt : i < n
    · have hl2 : (i : Int) < (n : Int) := by omega
      have e0 := HB.out.cell (hA i hlt)
      have e1 := HB.out.cell (hB i hlt).1
      have e2 := HB.out.cell (hB i hlt).2
      obtain ⟨r1, r2, r3, r4⟩ := hx i hlt
      obtain ⟨xi, hxi⟩ : ∃ z, z = x i := ⟨_, rfl⟩
      obtain ⟨yi, hyi⟩ : ∃ z, z = y i := ⟨_, rfl⟩
      obtain ⟨ai, hai⟩ : ∃ z, z = a i := ⟨_, rfl⟩
      obtain ⟨bi, hbi⟩ : ∃ z, z = b i := ⟨_, rfl⟩
      rw [← hxi, ← hyi] at e0; rw [← hai] at e1; rw [← hbi] at e2; rw [← hxi, ← hai] at r1; rw [← hyi, ← hbi] at r2; rw [← hai] at r3; rw [← hbi] at r4
      have R1 := Lib.hid r1; have R2 := Lib.hid r2; have R3 := Lib.hid r3; have R4 := Lib.hid r4
      clear r1 r2 r3 r4 hxi hyi hai hbi
      go_wp2
      go_region_held3 (fun w' => w'.cell? ⟨g, i, none⟩ = some (.complex .f64 xi yi) ∧ w'.cell? ⟨h, i * 2, none⟩ = some (.int .i64 ai) ∧ w'.cell? ⟨h, i * 2 + 1, none⟩ = some (.int .i64 bi) ∧ Hid (Bd wr w')) (first | exact ⟨e0, e1, e2, Lib.hid (Bd.drew _)⟩ | exact keepT hb (by assumption) | assumption) (first | (go_at_call 18; refine (is_true xi yi ai bi R1.out R2.out R3.out R4.out _).mono ?_; rintro e w'' ⟨rfl, hb⟩))
      have HB4 := Lib.hid (HB.out.trans (And.right (And.right (And.right ‹_ ∧ _ ∧ _ ∧ Hid (Bd wr w'')›))).out)
      go_wp2
      go_roundg (n - (i + 1))
      case measure => omega
      case rel => exact ⟨i + 1, by go_num, by omega, by omega, HB4⟩
    · obtain rfl : i = n := by omega
      have hl2 : ¬ (i : Int) < (i : Int) := by omega
      go_wp2
      go_ret
      exact ⟨rfl, HB.out⟩

set_option maxHeartbeats 4000000 in
theorem numbers_true (n : Nat) (hn : n ≤ 1000000) (g cap h cap' : Nat) (a : Nat → Int) (W : World)
    (hA : ∀ k, k < n → W.cell? ⟨g, k, none⟩ = some (.int .i64 (a k))) (hB : ∀ k, k < n → W.cell? ⟨h, k, none⟩ = some (.int .i64 (a k))) :
    Calls Try.prog 14 #[.slice (some ⟨g, 0, none⟩) n cap, .slice (some ⟨h, 0, none⟩) n cap'] W fun e w' => e = .returned (.bool true) ∧ Bd W w' := by
  go_enter Try.func14, Try.ntmps14
  go_wp2
  go_loopg [5] n (fun gg v5 wr => ∃ i : Nat, v5 = .int .i64 (i : Int) ∧ i ≤ n ∧ n - i ≤ gg ∧ Hid (Bd W wr))
  case atStart => exact ⟨0, rfl, by omega, by omega, Lib.hid (Bd.refl W)⟩
  case round =>
    obtain ⟨i, rfl, hi, hg, HB⟩ := hrel
    by_cases hlt : i < n
    · have hl2 : (i : Int) < (n : Int) := by omega
      have e0 := HB.out.cell (hA i hlt)
      have e1 := HB.out.cell (hB i hlt)
      obtain ⟨ai, hai⟩ : ∃ z, z = a i := ⟨_, rfl⟩
      rw [← hai] at e0 e1
      clear hai
      go_wp2
      go_quiet (fail)
      have HB4 := Lib.hid (HB.out.trans (Bd.drewN wr nq))
      go_wp2
      go_roundg (n - (i + 1))
      case measure => omega
      case rel => exact ⟨i + 1, by go_num, by omega, by omega, HB4⟩
    · obtain rfl : i = n := by omega
      have hl2 : ¬ (i : Int) < (i : Int) := by omega
      go_wp2
      go_ret
      exact ⟨rfl, HB.out⟩

theorem cell_new (W : World) (cs : Array Value) (t : TypeId) (k : Nat) : (W.alloc (.cells cs t)).cell? ⟨W.heap.size, k, none⟩ = cs[k]? := by
  have h : (W.alloc (.cells cs t)).heap[W.heap.size]? = some (.cells cs t (0, 0)) := by
    show (W.heap.push _)[W.heap.size]? = _
    rw [Array.getElem?_push_size]
  unfold World.cell?
  rw [h]
  rfl
theorem rep_two : Rep 4611686018427387904 2 := ⟨false, 4503599627370496, 51, by decide +kernel, by rw [signed0]; decide +kernel⟩
theorem row_cells {w : World} {lo t n : Nat} {v : Value} {vals : List Value} (h : w.ownsRow lo t 1 v n vals) (hn : 0 < n) (hl : vals.length = n) : ∃ g cap, v = .slice (some ⟨g, 0, none⟩) n cap ∧ ∀ k, k < n → w.cell? ⟨g, k, none⟩ = some (vals.getD k undef) := by
  rcases h with ⟨hl', ⟨rfl, h0⟩ | ⟨g, cap, cur, rfl, hg, hh, hle, hcm, hcs, htk⟩⟩
  · omega
  · refine ⟨g, cap, rfl, fun j hj => ?_⟩
    simp only [World.cell?, hh]
    have h2 : (cur.toList.take (n * 1))[j]? = vals[j]? := by rw [htk]
    rw [List.getElem?_take_of_lt (by omega)] at h2
    have h3 : cur[j]? = vals[j]? := by simpa using h2
    show cur[j]? = _
    rw [h3, List.getD_eq_getElem?_getD, List.getElem?_eq_getElem (by omega)]
    rfl
set_option maxHeartbeats 4000000 in
theorem heads_any (W : World) : Calls Try.prog 6 #[] W fun e w' => e = .returned (.bool true) ∧ Below W.heap.size W w' := by
  go_enter Try.func6, Try.ntmps6
  go_wp2_with fail
  refine (corr_any (some ⟨W.heap.size, 0, none⟩) 3 [1, 2, 3] (some ⟨W.heap.size + 1, 0, none⟩) 1 [2] _ (by decide) (by decide) ?_ (by decide) ?_ (by decide) 3 (by decide)).mono ?_
  · intro k hk
    have hk : k < 3 := hk
    refine ⟨_, rfl, ?_⟩
    rw [Addr.add_mid, Nat.zero_add]
    refine (Bd.alloc _ _).cell ((cell_new _ _ _ _).trans ?_)
    have : k = 0 ∨ k = 1 ∨ k = 2 := by omega
    rcases this with rfl | rfl | rfl <;> rfl
  · intro k hk
    have hk : k < 1 := hk
    obtain rfl : k = 0 := by omega
    refine ⟨_, rfl, ?_⟩
    rw [Addr.add_mid, Nat.zero_add]
    have h := cell_new (W.alloc (Obj.cells #[Value.int IntKind.u8 1, Value.int IntKind.u8 2, Value.int IntKind.u8 3] 5)) #[Value.int IntKind.u8 2] 5 0
    rw [World.size_alloc] at h
    exact h
  rintro e w1 ⟨v, vals, rfl, hO, hV, hB⟩
  obtain ⟨g, cap, rfl, hc⟩ := row_cells hO (by decide) hV.1
  obtain ⟨f, hf⟩ := els_of hV
  have hc0 : ∀ k, k < 3 → w1.cell? ⟨g, k, none⟩ = some (.complex .f64 (f k).x (f k).y) := fun k hk => by rw [hc k hk]; exact congrArg some (hf k hk).2.1
  have hfa : ∀ k, k < 3 → (f k).a = ([0, 1, 0] : List Int).getD k 0 ∧ (f k).b = ([-1, 0, 1] : List Int).getD k 0 := by
    intro k hk
    obtain ⟨-, -, h1, h2⟩ := hf k hk
    have : k = 0 ∨ k = 1 ∨ k = 2 := by omega
    rcases this with rfl | rfl | rfl <;> exact ⟨h1.trans (by decide), h2.trans (by decide)⟩
  have hB1 : Below W.heap.size W w1 := (((Below.refl _ W).alloc (Nat.le_refl _) _).alloc (by simp) _).trans (hB.mono (by simp; omega))
  clear hO hV hB hc hf
  go_wp2_with fail
  refine (mark_any 3 (by decide) w1).mono ?_
  rintro e w2 ⟨rfl, hb2⟩
  obtain ⟨mx, my, hmv, r1, r2⟩ := cr_mark 3
  rw [hmv]
  have q1 := ord_eq (b := 0) r1 rep_zero
  have q2 := ord_eq (b := -1) r2 rep_mone
  rw [show decide (pre 3 = 0) = true by decide] at q1
  rw [show decide (pim 3 = -1) = true by decide] at q2
  unfold mone64 at q2
  clear hmv r1 r2
  go_wp2_with fail
  refine (turn_any (.complex .f64 4611686018427387904 4607182418800017408) 2 1 1 ⟨_, _, rfl, rep_two, rep_one⟩ (by decide) (by decide) (by decide) w2).mono ?_
  rintro e w3 ⟨tv, rfl, ⟨tx, ty, rfl, r1, r2⟩, rfl⟩
  have q3 := ord_eq (b := -1) r1 rep_mone
  have q4 := ord_eq (b := 2) r2 rep_two
  rw [show decide ((turnN ((1 : Int) % 4).toNat ((2 : Int), (1 : Int))).1 = -1) = true by decide] at q3
  rw [show decide ((turnN ((1 : Int) % 4).toNat ((2 : Int), (1 : Int))).2 = 2) = true by decide] at q4
  unfold mone64 at q3
  clear q1 q2 r1 r2
  go_wp2_with fail
  refine (sum_any (some ⟨w2.heap.size, 0, none⟩) 3 [0, 0, 1] _ (by decide) (fun k hk => ?_) (by decide)).mono ?_
  · have hk : k < 3 := hk
    refine ⟨_, rfl, ?_⟩
    rw [Addr.add_mid, Nat.zero_add]
    refine ((cell_new _ _ _ _).trans ?_)
    have : k = 0 ∨ k = 1 ∨ k = 2 := by omega
    rcases this with rfl | rfl | rfl <;> rfl
  rintro e w4 ⟨sv, rfl, ⟨sx, sy, rfl, r1, r2⟩, hb4⟩
  have q5 := ord_eq (b := 2) r1 rep_two
  have q6 := ord_eq (b := 1) r2 rep_one
  rw [show decide (sre [0, 0, 1] = 2) = true by decide] at q5
  rw [show decide (sim [0, 0, 1] = 1) = true by decide] at q6
  unfold one64 at q6
  clear q3 q4 r1 r2
  have hbd : Bd w1 w4 := (hb2.trans (Bd.alloc w2 _)).trans hb4
  have hB4 : Below W.heap.size W w4 := hB1.trans (hbd.below.mono hB1.size)
  go_wp2_with fail
  refine (same_true 3 (by decide) g cap w4.heap.size 3 (fun k => (f k).x) (fun k => (f k).y) (fun k => (f k).a) (fun k => (f k).b) (fun k hk => ⟨(f k).hx, (f k).hy, ?_, ?_⟩) _ (fun k hk => (Bd.alloc w4 _).cell (hbd.cell (hc0 k hk))) (fun k hk => ?_)).mono ?_
  · rw [(hfa k hk).1]
    have : k = 0 ∨ k = 1 ∨ k = 2 := by omega
    rcases this with rfl | rfl | rfl <;> decide
  · rw [(hfa k hk).2]
    have : k = 0 ∨ k = 1 ∨ k = 2 := by omega
    rcases this with rfl | rfl | rfl <;> decide
  · rw [(hfa k hk).1, (hfa k hk).2]
    have : k = 0 ∨ k = 1 ∨ k = 2 := by omega
    rcases this with rfl | rfl | rfl <;> exact ⟨cell_new _ _ _ _, cell_new _ _ _ _⟩
  rintro e w5 ⟨rfl, hb5⟩
  have hB5 : Below W.heap.size W w5 := hB4.trans (((Bd.alloc w4 _).trans hb5).below.mono hB4.size)
  clear hB4 hB1 hbd hb4 hb5 hb2 hc0 hfa q5 q6
  go_wp2_with fail
  refine ((callsIn_wide (n := 6)).1 (filter_in (some ⟨w5.heap.size, 0, none⟩) 3 [1, 2, 6] (some ⟨w5.heap.size + 1, 0, none⟩) 1 [2] _ (by decide) (by decide) (fun k hk => ?_) (by decide) (fun k hk => ?_) (by decide) 3 (by decide))).mono ?_
  · have hk : k < 3 := hk
    refine ⟨_, rfl, ?_⟩
    rw [Addr.add_mid, Nat.zero_add]
    refine (Bd.alloc _ _).cell ((cell_new _ _ _ _).trans ?_)
    have : k = 0 ∨ k = 1 ∨ k = 2 := by omega
    rcases this with rfl | rfl | rfl <;> rfl
  · have hk : k < 1 := hk
    obtain rfl : k = 0 := by omega
    refine ⟨_, rfl, ?_⟩
    rw [Addr.add_mid, Nat.zero_add]
    have h := cell_new (w5.alloc (Obj.cells #[Value.int IntKind.u8 1, Value.int IntKind.u8 2, Value.int IntKind.u8 6] 5)) #[Value.int IntKind.u8 2] 5 0
    rw [World.size_alloc] at h
    exact h
  rintro e w6 ⟨v, rfl, hO, hB⟩
  have hB6 : Below W.heap.size W w6 := ((hB5.alloc hB5.size _).alloc (by have := hB5.size; simp; omega) _).trans (hB.mono (by have := hB5.size; simp; omega))
  rw [show flt [1, 2, 6] [2] 3 = [1, 2] by decide] at hO
  obtain ⟨g2, cap2, rfl, hc2⟩ := row_cells hO (by decide) rfl
  clear hO hB hB5
  go_wp2_with fail
  refine (numbers_true 2 (by decide) g2 cap2 w6.heap.size 2 (fun k => ([1, 2] : List Int).getD k 0) _ (fun k hk => (Bd.alloc w6 _).cell ((hc2 k hk).trans ?_)) (fun k hk => (cell_new _ _ _ _).trans ?_)).mono ?_
  · have : k = 0 ∨ k = 1 := by omega
    rcases this with rfl | rfl <;> rfl
  · have : k = 0 ∨ k = 1 := by omega
    rcases this with rfl | rfl <;> rfl
  rintro e w7 ⟨rfl, hb7⟩
  have hB7 : Below W.heap.size W w7 := hB6.trans (((Bd.alloc w6 _).trans hb7).below.mono hB6.size)
  clear hB6 hb7 hc2
  go_wp2
  go_ret
  exact ⟨rfl, hB7⟩
end Go.Proofs.Ytihnlebpbmhpgaa.Phase
