/- PhaseTurns, by its contract. -/
import Derived.Test.YtihnlebpbmhpgaaYHeads
import Derived.Maps.AppendAt
namespace Go.Proofs.Ytihnlebpbmhpgaa.Phase
open Go.RowKit Go.Shelf Go.Proofs.Ytihnlebpbmhpgaa.Base Go.Proofs.MathFlt Go.Proofs.YtihnlebpbmhpgaaW.PrintWords
set_option linter.unusedVariables false
set_option linter.unusedSimpArgs false
attribute [local go_sem] run_store_complex run_store_float unary_neg_float

def up (c : Int) : Int := IntKind.u8.wrap (c + 1)
theorem up_eq (c : Int) (h : 0 ≤ c ∧ c < 256) : up c = if c = 255 then 0 else c + 1 := by
  have : IntKind.u8.wrap (c + 1) = (c + 1) % 256 := by
    unfold IntKind.wrap
    simp [IntKind.signed, IntKind.bits]
  unfold up
  rw [this]
  split <;> omega
theorem up_range (c : Int) (h : 0 ≤ c ∧ c < 256) : 0 ≤ up c ∧ up c < 256 := by rw [up_eq c h]; split <;> omega
theorem pre_up (c : Int) (h : 0 ≤ c ∧ c < 256) : pre (up c) = -pim c ∧ pim (up c) = pre c := by
  have h4 : up c % 4 = (c + 1) % 4 := by rw [up_eq c h]; split <;> omega
  unfold pre pim
  rw [h4]
  have : c % 4 = 0 ∨ c % 4 = 1 ∨ c % 4 = 2 ∨ c % 4 = 3 := by omega
  rcases this with e | e | e | e
  · rw [e, show (c + 1) % 4 = 1 by omega]; decide
  · rw [e, show (c + 1) % 4 = 2 by omega]; decide
  · rw [e, show (c + 1) % 4 = 3 by omega]; decide
  · rw [e, show (c + 1) % 4 = 0 by omega]; decide
theorem sums_up : ∀ l : List Int, (∀ c ∈ l, 0 ≤ c ∧ c < 256) → sre (l.map up) = -sim l ∧ sim (l.map up) = sre l
  | [], _ => by decide
  | x :: l, h => by
    have h1 := sums_up l fun c hc => h c (List.mem_cons_of_mem _ hc)
    have h2 := pre_up x (h x List.mem_cons_self)
    unfold sre sim at h1 ⊢
    simp only [List.map_cons, List.sum_cons]
    omega
theorem infoB : (Try.prog.info? 5).map (fun i => (i.zero, i.size, i.bytes)) = some (some (.int .u8 0), 1, 1) := by kernel_rfl
def bytesV (l : List Int) : List Value := l.map (Value.int .u8)
theorem row_bytes {w : World} {lo t : Nat} {v : Value} {l : List Int} (h : w.ownsRow lo t 1 v l.length (bytesV l)) : ∃ A cap, v = .slice A l.length cap ∧ ∀ k, k < l.length → ∃ ad, A = some ad ∧ w.cell? (ad.add k) = some (.int .u8 (l.getD k 0)) := by
  by_cases h0 : 0 < l.length
  · obtain ⟨g, cap, rfl, hc⟩ := row_cells h h0 (by unfold bytesV; simp)
    refine ⟨_, cap, rfl, fun k hk => ⟨_, rfl, ?_⟩⟩
    rw [Addr.add_mid, Nat.zero_add, hc k hk]
    unfold bytesV
    rw [List.getD_eq_getElem?_getD, List.getElem?_map, List.getElem?_eq_getElem hk, List.getD_eq_getElem?_getD, List.getElem?_eq_getElem hk]
    rfl
  · rcases h with ⟨hl', ⟨rfl, h1⟩ | ⟨g, cap, cur, rfl, hg, hh, hle, hcm, hcs, htk⟩⟩
    · exact ⟨none, 0, by rw [h1], fun k hk => absurd hk (by omega)⟩
    · exact ⟨_, _, rfl, fun k hk => absurd hk (by omega)⟩

set_option maxHeartbeats 8000000 in
set_option maxRecDepth 100000 in
theorem turns_any (A : Option Addr) (c : Nat) (l : List Int) (n : Int) (W : World) (hA : ∀ k, k < l.length → ∃ ad, A = some ad ∧ W.cell? (ad.add k) = some (.int .u8 (l.getD k 0))) (hb8 : ∀ k, k < l.length → 0 ≤ l.getD k 0 ∧ l.getD k 0 < 256) :
    Calls Try.prog 4 #[.slice A l.length c, .int .i64 n] W fun e w' => e = .returned (.bool true) ∧ Below W.heap.size W w' := by
  by_cases hn : l.length ≤ 1000 ∧ 0 ≤ n ∧ n ≤ 100
  · obtain ⟨h1, h2, h3⟩ := hn
    have g1 : ¬ (1000 : Int) < (l.length : Int) := by omega
    have g2 : ¬ n < 0 := by omega
    have g3 : ¬ 100 < n := by omega
    have g4 : IntKind.i64.wrap (n + 4) = n + 4 := Go.IntWalk.i64_in _ (by omega)
    obtain ⟨i0, hi, hz0, hz1, hz2⟩ := info_parts infoB
    have HI := Lib.hid hi; have HZ0 := Lib.hid hz0; have HZ1 := Lib.hid hz1; have HZ2 := Lib.hid hz2
    have G4 := Lib.hid g4
    clear hi hz0 hz1 hz2 g4
    go_enter Try.func4, Try.ntmps4
    go_wp2
    go_loopg [5, 6] l.length (fun gg v5 v6 wr => ∃ i : Nat, v6 = .int .i64 (i : Int) ∧ wr.ownsRow W.heap.size 5 1 v5 i (bytesV ((l.map up).take i)) ∧ i ≤ l.length ∧ l.length - i ≤ gg ∧ Hid (Below W.heap.size W wr))
    case atStart => exact ⟨0, rfl, World.ownsRow_nil _ _ _ _, by omega, by omega, Lib.hid (Below.refl _ W)⟩
    case round =>
      obtain ⟨i, rfl, hO, hi, hg, HB⟩ := hrel
      by_cases hlt : i < l.length
      · have hl2 : (i : Int) < (l.length : Int) := by omega
        obtain ⟨ad, rfl, hca⟩ := hA i hlt
        have e0 := bcellv HB.out hca
        obtain ⟨z, hz⟩ : ∃ z, z = l.getD i 0 := ⟨_, rfl⟩
        rw [← hz] at e0
        have HZ := Lib.hid hz
        have HO := Lib.hid hO
        have hsz := HB.out.size
        clear hz hO hca
        go_wp2_with (at_builtin; refine wpList_append_own _ rfl _ _ 22 rfl W.heap.size 5 i0 (.int .u8 0) 1 1 Try.underlying22 HI.out HZ0.out HZ1.out HZ2.out rfl (by decide) _ _ _ rfl (HO.out.alloc _) ⟨wr.heap.size, 0, none⟩ 1 1 [.int .u8 (up z)] rfl rfl (cell_one_new _ _ _) ?q2 ?q3 ?q4 ?q5 ?_)
        case q2 => simp [Value.oneCell']
        case q3 => unfold maxLen; omega
        case q4 => omega
        case q5 => first | omega | (simp; omega)
        intro v' w1 hO3 hG _
        have HO3 := Lib.hid hO3
        have hbd : Below W.heap.size W w1 := (HB.out.alloc (by omega) _).grown hG (by first | omega | (simp; omega)) (fun k hk => own_base HO.out k hk)
        have HB5 := Lib.hid hbd
        clear hO3 hG hbd
        go_wp2
        go_roundg (l.length - (i + 1))
        case measure => omega
        case rel =>
          refine ⟨i + 1, by go_num, ?_, by omega, by omega, HB5⟩
          have h := HO3.out
          rw [HZ.out] at h
          have e : bytesV ((l.map up).take (i + 1)) = bytesV ((l.map up).take i) ++ [.int .u8 (up (l.getD i 0))] := by
            unfold bytesV
            rw [List.take_add_one, List.getElem?_map, List.getElem?_eq_getElem hlt, List.getD_eq_getElem?_getD, List.getElem?_eq_getElem hlt, List.map_append]
            rfl
          rw [e]
          exact h
      · obtain rfl : i = l.length := by omega
        have hl2 : ¬ (l.length : Int) < (l.length : Int) := by omega
        have hO' : wr.ownsRow W.heap.size 5 1 u5 ((l.map up).length) (bytesV (l.map up)) := by
          rw [List.length_map]
          rw [List.take_of_length_le (by rw [List.length_map]; exact Nat.le_refl _)] at hO
          exact hO
        obtain ⟨B, cap, rfl, hBc⟩ := row_bytes hO'
        have hb : ∀ c ∈ l, 0 ≤ c ∧ c < 256 := by
          intro c hc
          obtain ⟨k, hk, e⟩ := List.getElem_of_mem hc
          have := hb8 k hk
          rw [List.getD_eq_getElem?_getD, List.getElem?_eq_getElem hk] at this
          rw [← e]
          exact this
        obtain ⟨s1, s2⟩ := sums_up l hb
        have sa := sum_abs pre pre_abs l
        have sb := sum_abs pim pim_abs l
        obtain ⟨a, hae⟩ : ∃ a, a = sre l := ⟨_, rfl⟩
        obtain ⟨b, hbe⟩ : ∃ b, b = sim l := ⟨_, rfl⟩
        have sa : a.natAbs ≤ 1000 := by rw [hae]; unfold sre; omega
        have sb : b.natAbs ≤ 1000 := by rw [hbe]; unfold sim; omega
        have HS := Lib.hid (And.intro s1 s2); have HA := Lib.hid hae; have HBb := Lib.hid hbe
        have HBc := Lib.hid hBc
        clear hO hO' s1 s2 hae hbe hBc
        go_wp2_with fail
        refine (sum_any A c l wr (by omega) (fun k hk => ?_) hb8).mono ?_
        · obtain ⟨ad, e, h⟩ := hA k hk
          exact ⟨ad, e, bcellv HB.out h⟩
        rintro e w1 ⟨zv, rfl, ⟨zx, zy, rfl, r1, r2⟩, hb1⟩
        rw [← HA.out] at r1
        rw [← HBb.out] at r2
        have HR1 := Lib.hid r1; have HR2 := Lib.hid r2
        clear r1 r2
        go_wp2_with fail
        have hu := sum_any B cap (l.map up) w1 (by rw [List.length_map]; omega) (fun k hk => by obtain ⟨ad, e, h⟩ := HBc.out k hk; exact ⟨ad, e, hb1.cell h⟩) (fun k hk => by
          have hk : k < l.length := by rwa [List.length_map] at hk
          rw [List.getD_eq_getElem?_getD, List.getElem?_map, List.getElem?_eq_getElem hk]
          have h := hb8 k hk
          rw [List.getD_eq_getElem?_getD, List.getElem?_eq_getElem hk] at h
          exact up_range _ h)
        rw [List.length_map] at hu
        refine hu.mono ?_
        rintro e w2 ⟨uv, rfl, ⟨ux, uy, rfl, r1, r2⟩, hb2⟩
        rw [HS.out.1, ← HBb.out] at r1
        rw [HS.out.2, ← HA.out] at r2
        have HU1 := Lib.hid r1; have HU2 := Lib.hid r2
        have HB3 := Lib.hid (HB.out.trans ((hb1.trans hb2).below.mono HB.out.size))
        clear r1 r2 hb1 hb2 hu
        go_wp2_with fail
        refine (turn_any (.complex .f64 zx zy) a b 1 ⟨_, _, rfl, HR1.out, HR2.out⟩ (by omega) (by omega) (by decide) w2).mono ?_
        rintro e w3 ⟨tv, rfl, ⟨tx, ty, rfl, r1, r2⟩, rfl⟩
        have q1 := ord_eq HU1.out r1
        have q2 := ord_eq HU2.out r2
        rw [decide_eq_true (show -b = (turnN ((1 : Int) % 4).toNat (a, b)).1 from rfl)] at q1
        rw [decide_eq_true (show a = (turnN ((1 : Int) % 4).toNat (a, b)).2 from rfl)] at q2
        clear r1 r2 HU1 HU2
        have g5 := G4.out
        go_wp2_with fail
        refine (turn_any (.complex .f64 zx zy) a b (n + 4) ⟨_, _, rfl, HR1.out, HR2.out⟩ (by omega) (by omega) (by omega) w2).mono ?_
        rintro e w3 ⟨tv, rfl, ⟨vx, vy, rfl, r1, r2⟩, rfl⟩
        have HV1 := Lib.hid r1; have HV2 := Lib.hid r2
        clear r1 r2 q1 q2 g5
        go_wp2_with fail
        refine (turn_any (.complex .f64 zx zy) a b n ⟨_, _, rfl, HR1.out, HR2.out⟩ (by omega) (by omega) (by omega) w2).mono ?_
        rintro e w3 ⟨tv, rfl, ⟨nx, ny, rfl, r1, r2⟩, rfl⟩
        have q1 := ord_eq HV1.out r1
        have q2 := ord_eq HV2.out r2
        have h4 : (n + 4) % 4 = n % 4 := by omega
        rw [h4, decide_eq_true rfl] at q1 q2
        clear r1 r2 HV1 HV2 h4
        go_wp2_with fail
        refine (turn_any (.complex .f64 zx zy) a b 1 ⟨_, _, rfl, HR1.out, HR2.out⟩ (by omega) (by omega) (by decide) w2).mono ?_
        rintro e w3 ⟨tv, rfl, ⟨ox, oy, rfl, r1, r2⟩, rfl⟩
        have r1 : Rep ox (-b) := r1
        have r2 : Rep oy a := r2
        clear q1 q2
        go_wp2_with fail
        refine (turn_any (.complex .f64 ox oy) (-b) a 3 ⟨_, _, rfl, r1, r2⟩ (by omega) (by omega) (by decide) w2).mono ?_
        rintro e w3 ⟨tv, rfl, ⟨px, py, rfl, s1, s2⟩, rfl⟩
        have q1 := ord_eq s1 HR1.out
        have q2 := ord_eq s2 HR2.out
        rw [decide_eq_true (show (turnN ((3 : Int) % 4).toNat (-b, a)).1 = a by show - -a = a; omega)] at q1
        rw [decide_eq_true (show (turnN ((3 : Int) % 4).toNat (-b, a)).2 = b by show - -b = b; omega)] at q2
        clear r1 r2 s1 s2
        go_wp2_with fail
        refine (heads_any w2).mono ?_
        rintro e w3 ⟨rfl, hb3⟩
        have HB4 := Lib.hid (HB3.out.trans (hb3.mono HB3.out.size))
        clear hb3 q1 q2
        go_wp2
        go_ret
        exact ⟨rfl, HB4.out⟩
  · have hfin : ∀ w3, Below W.heap.size W w3 → Below W.heap.size W w3 := fun _ h => h
    by_cases g1 : (1000 : Int) < (l.length : Int)
    · go_enter Try.func4, Try.ntmps4
      go_wp2_with fail
      refine (heads_any W).mono ?_
      rintro e w3 ⟨rfl, hb3⟩
      go_wp2
      go_ret
      exact ⟨rfl, hb3⟩
    · by_cases g2 : n < 0
      · go_enter Try.func4, Try.ntmps4
        go_wp2_with fail
        refine (heads_any W).mono ?_
        rintro e w3 ⟨rfl, hb3⟩
        go_wp2
        go_ret
        exact ⟨rfl, hb3⟩
      · have g3 : 100 < n := by omega
        go_enter Try.func4, Try.ntmps4
        go_wp2_with fail
        refine (heads_any W).mono ?_
        rintro e w3 ⟨rfl, hb3⟩
        go_wp2
        go_ret
        exact ⟨rfl, hb3⟩
end Go.Proofs.Ytihnlebpbmhpgaa.Phase
