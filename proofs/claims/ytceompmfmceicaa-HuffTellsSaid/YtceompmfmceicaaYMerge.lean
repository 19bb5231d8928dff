/- slices.symMergeCmpFunc at []int, by its contract: two runs that ascend become one. -/
import Derived.Test.YtceompmfmceicaaYSwap
import Derived.Test.YtceompmfmceicaaMathAll
namespace Go.Proofs.Ytceompmfmceicaa.Stable
open Go.RowKit Go.Shelf Go.Lib Go.Sort Go.Proofs Go.Proofs.MathMerge
set_option linter.unusedVariables false
set_option linter.unusedSimpArgs false

theorem lexB_step {L : Int → Int} {x y z : Int} (h : lexB L x z = true) (h2 : lexB L x y = false) : lexB L y z = true := by
  rw [lexB_iff] at *
  rw [lexB_not] at h2
  omega
theorem lexB_step2 {L : Int → Int} {x y z : Int} (h : lexB L x z = false) (h2 : lexB L y x = false) : lexB L y z = false := by
  rw [lexB_not] at *
  omega
theorem lexB_step3 {L : Int → Int} {x y z : Int} (h : lexB L x y = true) (h2 : lexB L z y = false) : lexB L x z = true := by
  rw [lexB_iff] at *
  rw [lexB_not] at h2
  omega
theorem lexB_step4 {L : Int → Int} {x y z : Int} (h : lexB L x y = false) (h2 : lexB L y z = false) : lexB L x z = false := by
  rw [lexB_not] at *
  omega
/-- What the merge is told, once. -/
structure Told (L : Int → Int) (enc : Int → Value) (cf : Int → Int → Int) (g : Nat) (cb : Array Value) (blk off : Nat) (d0 : Array Int) (w0 : World) : Prop where
  R : Row1 enc w0 blk off d0
  eg : ∀ args w, (callFunc g args).run Try.prog w = .ok (.enter g args) w
  hC : CmpLays1 Try.prog g cb enc cf blk off d0.size w0
  lt : ∀ x y, cf x y < 0 ↔ ltB L x y = true
  sz : d0.size < 4611686018427387904
/-- What comes of it. -/
def Merged (L : Int → Int) (enc : Int → Value) (blk off a b : Nat) (d : Array Int) (w0 : World) (e : Ending) (w' : World) : Prop :=
  e = .returned (.tuple #[]) ∧ ∃ d', PermIn a b d d' ∧ SortedIn (lexB L) a b d' ∧ SW enc w0 blk off d' w'

set_option maxHeartbeats 16000000 in
set_option maxRecDepth 1000000 in
theorem symMerge_one (L : Int → Int) (enc : Int → Value) (cf : Int → Int → Int) (g : Nat) (cb : Array Value) (blk off cap a b sz : Nat) (d0 d : Array Int) (w0 w : World) (T : Told L enc cf g cb blk off d0 w0) (h0 : d0.size = sz)
    (hs : d.size = sz) (S : SW enc w0 blk off d w) (hab : a + 1 < b) (hb : b ≤ sz) (hsr : SortedIn (lexB L) (a + 1) b d) (hx : ∀ k, a + 1 ≤ k → k < b → d[a]! < d[k]!) :
    Calls Try.prog 52 #[.slice (some ⟨blk, off, none⟩) sz cap, .int .i64 a, .int .i64 ((a + 1 : Nat) : Int), .int .i64 b, .func (.func g) #[] cb] w (Merged L enc blk off a b d w0) := by
  have mixed := mixed
  have hcl0 := T.R.hO.cells
  simp only [Value.cells] at hcl0
  have hst := T.R.hO.store Try.prog
  have eg := T.eg
  have hsz := T.sz
  have S0 : Aside (SW enc w0 blk off d w) := S
  have HT := Lib.hid T
  have HX := Lib.hid hx; have HS := Lib.hid hsr
  clear S T hx hsr
  have z1 : IntKind.i64.wrap (((a + 1 : Nat) : Int) - (a : Int)) = 1 := by rw [IntKind.wrap_i64]; omega
  obtain ⟨m, hm⟩ : ∃ m, m = a + 1 := ⟨_, rfl⟩
  rw [← hm] at z1 ⊢
  have HM := Lib.hid hm
  clear hm
  go_enter Try.func52, Try.ntmps52
  go_wp2
  go_loopg [10, 11] sz (fun kx s10 s11 wr => ∃ lo hi : Nat, s10 = .int .i64 lo ∧ s11 = .int .i64 hi ∧ m ≤ lo ∧ lo ≤ hi ∧ hi ≤ b ∧ hi - lo ≤ kx ∧ Aside (SW enc w0 blk off d wr) ∧ Hid ((∀ k, m ≤ k → k < lo → lexB L d[k]! d[a]! = true) ∧ (∀ k, hi ≤ k → k < b → lexB L d[k]! d[a]! = false)))
  case atStart =>
    have hm := HM.out
    exact ⟨m, b, rfl, rfl, by omega, by omega, by omega, by omega, S0, Lib.hid ⟨fun k h1 h2 => by omega, fun k h1 h2 => by omega⟩⟩
  case round =>
    clear S0
    obtain ⟨lo, hi, rfl, rfl, hml, hlh, hhb, hkx, S1, I⟩ := hrel
    have hm := HM.out
    by_cases hlt : lo < hi
    · have hlz : (lo : Int) < (hi : Int) := by omega
      obtain ⟨h, hh⟩ : ∃ h, h = (lo + hi) / 2 := ⟨_, rfl⟩
      have zh : ((lo : Int) + (hi : Int)) / 2 = (h : Int) := by omega
      have hh1 : lo ≤ h ∧ h < hi := by omega
      have l1 := S1.out.cl HT.out.R (by omega) h (by omega)
      have l2 := S1.out.cl HT.out.R (by omega) a (by omega)
      obtain ⟨x, hxe⟩ : ∃ x, x = d[h]! := ⟨_, rfl⟩
      obtain ⟨y, hye⟩ : ∃ y, y = d[a]! := ⟨_, rfl⟩
      rw [← hxe] at l1
      rw [← hye] at l2
      have hc := S1.out.cmp HT.out.hC (by omega) x y
      have hlx : ltB L x y = lexB L x y := lt_lex (by rw [hxe, hye]; exact HX.out h (by omega) (by omega))
      have hcf := HT.out.lt x y
      rw [hlx] at hcf
      have bh : (h : Int) < (sz : Int) := by omega
      have ba : (a : Int) < (sz : Int) := by omega
      have HXY := Lib.hid (And.intro hxe hye)
      have HH := Lib.hid hh1
      have sub1 : ∀ k, m ≤ k → k ≤ h → lexB L d[h]! d[k]! = false → True := fun _ _ _ _ => trivial
      clear hxe hye hh hlx hh1 hm sub1
      cases hv : lexB L x y with
      | true =>
        have hv2 : cf x y < 0 := hcf.2 hv
        have hd2 : decide (cf x y < 0) = true := decide_eq_true hv2
        have HV := Lib.hid hv
        clear hcf hv
        go_wp2_with fail
        go_quiet_grown (first | (go_at_fn g; refine Calls.grown_of (hc _ _)))
        have S2 : Aside (SW enc w0 blk off d (grow (wr.drewN nq) osq)) := S1.out.grown nq osq
        clear l1 l2 hc S1
        generalize grow (wr.drewN nq) osq = w2 at S2 ⊢
        clear nq osq zh
        go_wp2
        go_roundg (hi - (h + 1))
        case measure => have := HH.out; omega
        case rel =>
          have hh := HH.out
          have hm := HM.out
          refine ⟨h + 1, hi, by go_num, rfl, by omega, by omega, hhb, by omega, S2, Lib.hid ⟨fun k h1 h2 => ?_, I.out.2⟩⟩
          by_cases e : k < h
          · refine lexB_step ?_ (HS.out k h (by omega) e (by omega))
            rw [← HXY.out.1, ← HXY.out.2]
            exact HV.out
          · rw [show k = h by omega, ← HXY.out.1, ← HXY.out.2]
            exact HV.out
      | false =>
        have hv2 : ¬ cf x y < 0 := fun h => by rw [hcf.1 h] at hv; cases hv
        have hd2 : decide (cf x y < 0) = false := decide_eq_false hv2
        have HV := Lib.hid hv
        clear hcf hv
        go_wp2_with fail
        go_quiet_grown (first | (go_at_fn g; refine Calls.grown_of (hc _ _)))
        have S2 : Aside (SW enc w0 blk off d (grow (wr.drewN nq) osq)) := S1.out.grown nq osq
        clear l1 l2 hc S1
        generalize grow (wr.drewN nq) osq = w2 at S2 ⊢
        clear nq osq zh
        go_wp2
        go_roundg (h - lo)
        case measure => have := HH.out; omega
        case rel =>
          have hh := HH.out
          have hm := HM.out
          refine ⟨lo, h, rfl, rfl, hml, by omega, by omega, by omega, S2, Lib.hid ⟨I.out.1, fun k h1 h2 => ?_⟩⟩
          by_cases e : h < k
          · refine lexB_step2 ?_ (HS.out h k (by omega) e h2)
            rw [← HXY.out.1, ← HXY.out.2]
            exact HV.out
          · rw [show k = h by omega, ← HXY.out.1, ← HXY.out.2]
            exact HV.out
    · obtain rfl : lo = hi := by omega
      have hlz : ¬ (lo : Int) < (lo : Int) := by omega
      obtain ⟨q, hq⟩ : ∃ q, q + 1 = lo := ⟨lo - 1, by omega⟩
      have HQ := Lib.hid hq
      have zq : IntKind.i64.wrap ((lo : Int) - 1) = (q : Int) := by rw [IntKind.wrap_i64]; omega
      have haq : a ≤ q := by omega
      have hqb : q < b := by omega
      clear hm hq
      go_wp2
      go_loopg [13] sz (fun kx s13 wr => ∃ (k : Nat) (dk : Array Int), s13 = .int .i64 k ∧ a ≤ k ∧ k ≤ q ∧ q - k ≤ kx ∧ dk.size = sz ∧ Aside (SW enc w0 blk off dk wr) ∧ Hid (Up d dk a k ∧ PermIn a b d dk))
      case atStart => exact ⟨a, d, rfl, by omega, haq, by omega, hs, S1, Lib.hid ⟨Up.start d a, permIn_refl d a b⟩⟩
      case round =>
        clear S1
        obtain ⟨k, dk, rfl, hak, hkq, hkx, hds, S1, HU⟩ := hrel
        by_cases hlt : k < q
        · have hkz : (k : Int) < (q : Int) := by omega
          obtain ⟨jN, hjN⟩ : ∃ q, q = k + 1 := ⟨_, rfl⟩
          have ra : IntKind.i64.wrap ((k : Int) + 1) = (jN : Int) := by rw [IntKind.wrap_i64]; omega
          have ba : (k : Int) < (sz : Int) := by omega
          have bc : (jN : Int) < (sz : Int) := by omega
          obtain ⟨x, hx⟩ : ∃ x, x = dk[k]! := ⟨_, rfl⟩
          obtain ⟨y, hy⟩ : ∃ x, x = dk[k + 1]! := ⟨_, rfl⟩
          have S2 : Aside (SW enc w0 blk off (swp dk k (k + 1)) ((wr.setCell ⟨blk, off + k, none⟩ (enc y)).setCell ⟨blk, off + jN, none⟩ (enc x)).drew) := by
            rw [hjN, hx, hy]; exact S1.out.swapped HT.out.R k (k + 1) (by omega) (by omega)
          have c1 := S1.out.c1 HT.out.R (by omega) k (by omega)
          have c2 := S1.out.c1 HT.out.R (by omega) (k + 1) (by omega)
          have f1 := S1.out.f1 HT.out.R (by omega) k (by omega)
          have f2 := S1.out.f1 HT.out.R (by omega) (k + 1) (by omega)
          obtain ⟨u, c3⟩ := S1.out.c2 HT.out.R (by omega) k (k + 1) (by omega) (by omega) (enc y)
          rw [← hy] at c2
          rw [← hjN] at c3 c2 f2
          rw [← hx] at c1
          have HJ := Lib.hid hjN
          clear S1 hx hy hjN
          go_wp2_with fail
          go_big_region_o
          clear c1 c2 c3 f1 f2
          generalize ((wr.setCell ⟨blk, off + k, none⟩ (enc y)).setCell ⟨blk, off + jN, none⟩ (enc x)).drew = w2 at S2 ⊢
          go_wp2
          go_roundg (q - (k + 1))
          case measure => omega
          case rel =>
            have := HJ.out
            exact ⟨k + 1, _, by first | go_num | (congr 1; omega), by omega, by omega, by omega, by rw [size_swp]; exact hds, S2, Lib.hid ⟨HU.out.1.step hak (by omega), permIn_trans _ _ _ a b HU.out.2 (swp_permIn dk a b k (k + 1) (by omega) (by omega) (by omega) (by omega) (by omega))⟩⟩
        · obtain rfl : k = q := by omega
          have hkz : ¬ (k : Int) < (k : Int) := by omega
          go_wp2
          refine bodyPost_ret (results_none rfl _ _ _) rfl ?_
          have hq := HQ.out
          have hm := HM.out
          refine ⟨rfl, dk, HU.out.2, HU.out.1.sorted L hak hqb HS.out (fun j h1 h2 => I.out.1 j (by omega) (by omega)) (fun j h1 h2 => I.out.2 j (by omega) h2), S1.out⟩

set_option maxHeartbeats 16000000 in
set_option maxRecDepth 1000000 in
theorem symMerge_last (L : Int → Int) (enc : Int → Value) (cf : Int → Int → Int) (g : Nat) (cb : Array Value) (blk off cap a m sz : Nat) (d0 d : Array Int) (w0 w : World) (T : Told L enc cf g cb blk off d0 w0) (h0 : d0.size = sz)
    (hs : d.size = sz) (S : SW enc w0 blk off d w) (hab : a + 1 < m) (hb : m + 1 ≤ sz) (hsr : SortedIn (lexB L) a m d) (hx : ∀ k, a ≤ k → k < m → d[k]! < d[m]!) :
    Calls Try.prog 52 #[.slice (some ⟨blk, off, none⟩) sz cap, .int .i64 a, .int .i64 m, .int .i64 ((m + 1 : Nat) : Int), .func (.func g) #[] cb] w (Merged L enc blk off a (m + 1) d w0) := by
  have mixed := mixed
  have hcl0 := T.R.hO.cells
  simp only [Value.cells] at hcl0
  have hst := T.R.hO.store Try.prog
  have eg := T.eg
  have hsz := T.sz
  have S0 : Aside (SW enc w0 blk off d w) := S
  have HT := Lib.hid T
  have HX := Lib.hid hx; have HS := Lib.hid hsr
  clear S T hx hsr
  obtain ⟨b, hm⟩ : ∃ b, b = m + 1 := ⟨_, rfl⟩
  obtain ⟨n1, hn1⟩ : ∃ n1, n1 + a = m := ⟨m - a, by omega⟩
  have z0 : IntKind.i64.wrap ((m : Int) - (a : Int)) = (n1 : Int) := by rw [IntKind.wrap_i64]; omega
  have z01 : ¬ (n1 : Int) = 1 := by omega
  have z02 : ((n1 : Int) == 1) = false := by simp only [beq_eq_false_iff_ne, ne_eq]; omega
  have z1 : IntKind.i64.wrap ((b : Int) - (m : Int)) = 1 := by rw [IntKind.wrap_i64]; omega
  rw [← hm]
  have HM := Lib.hid hm
  clear hm hn1
  go_enter Try.func52, Try.ntmps52
  go_wp2
  go_loopg [14, 15] sz (fun kx s14 s15 wr => ∃ lo hi : Nat, s14 = .int .i64 lo ∧ s15 = .int .i64 hi ∧ a ≤ lo ∧ lo ≤ hi ∧ hi ≤ m ∧ hi - lo ≤ kx ∧ Aside (SW enc w0 blk off d wr) ∧ Hid ((∀ k, a ≤ k → k < lo → lexB L d[m]! d[k]! = false) ∧ (∀ k, hi ≤ k → k < m → lexB L d[m]! d[k]! = true)))
  case atStart =>
    have hm := HM.out
    exact ⟨a, m, rfl, rfl, by omega, by omega, by omega, by omega, S0, Lib.hid ⟨fun k h1 h2 => by omega, fun k h1 h2 => by omega⟩⟩
  case round =>
    clear S0
    obtain ⟨lo, hi, rfl, rfl, hml, hlh, hhb, hkx, S1, I⟩ := hrel
    have hm := HM.out
    by_cases hlt : lo < hi
    · have hlz : (lo : Int) < (hi : Int) := by omega
      obtain ⟨h, hh⟩ : ∃ h, h = (lo + hi) / 2 := ⟨_, rfl⟩
      have zh : ((lo : Int) + (hi : Int)) / 2 = (h : Int) := by omega
      have hh1 : lo ≤ h ∧ h < hi := by omega
      have l1 := S1.out.cl HT.out.R (by omega) h (by omega)
      have l2 := S1.out.cl HT.out.R (by omega) m (by omega)
      obtain ⟨y, hye⟩ : ∃ y, y = d[h]! := ⟨_, rfl⟩
      obtain ⟨x, hxe⟩ : ∃ x, x = d[m]! := ⟨_, rfl⟩
      rw [← hye] at l1
      rw [← hxe] at l2
      have hc := S1.out.cmp HT.out.hC (by omega) x y
      have hlx : ltB L x y = lexB L x y := lt_lex (by rw [hxe, hye]; exact HX.out h (by omega) (by omega))
      have hcf := HT.out.lt x y
      rw [hlx] at hcf
      have bh : (h : Int) < (sz : Int) := by omega
      have ba : (m : Int) < (sz : Int) := by omega
      have HXY := Lib.hid (And.intro hxe hye)
      have HH := Lib.hid hh1
      have sub1 : ∀ k, m ≤ k → k ≤ h → lexB L d[h]! d[k]! = false → True := fun _ _ _ _ => trivial
      clear hxe hye hh hlx hh1 hm sub1
      cases hv : lexB L x y with
      | true =>
        have hv2 : cf x y < 0 := hcf.2 hv
        have hd2 : decide (cf x y < 0) = true := decide_eq_true hv2
        have HV := Lib.hid hv
        clear hcf hv
        go_wp2_with fail
        go_quiet_grown (first | (go_at_fn g; refine Calls.grown_of (hc _ _)))
        have S2 : Aside (SW enc w0 blk off d (grow (wr.drewN nq) osq)) := S1.out.grown nq osq
        clear l1 l2 hc S1
        generalize grow (wr.drewN nq) osq = w2 at S2 ⊢
        clear nq osq zh
        go_wp2
        go_roundg (h - lo)
        case measure => have := HH.out; omega
        case rel =>
          have hh := HH.out
          have hm := HM.out
          refine ⟨lo, h, rfl, rfl, hml, by omega, by omega, by omega, S2, Lib.hid ⟨I.out.1, fun k h1 h2 => ?_⟩⟩
          by_cases e : h < k
          · refine lexB_step3 ?_ (HS.out h k (by omega) e (by omega))
            rw [← HXY.out.1, ← HXY.out.2]
            exact HV.out
          · rw [show k = h by omega, ← HXY.out.1, ← HXY.out.2]
            exact HV.out
      | false =>
        have hv2 : ¬ cf x y < 0 := fun h => by rw [hcf.1 h] at hv; cases hv
        have hd2 : decide (cf x y < 0) = false := decide_eq_false hv2
        have HV := Lib.hid hv
        clear hcf hv
        go_wp2_with fail
        go_quiet_grown (first | (go_at_fn g; refine Calls.grown_of (hc _ _)))
        have S2 : Aside (SW enc w0 blk off d (grow (wr.drewN nq) osq)) := S1.out.grown nq osq
        clear l1 l2 hc S1
        generalize grow (wr.drewN nq) osq = w2 at S2 ⊢
        clear nq osq zh
        go_wp2
        go_roundg (hi - (h + 1))
        case measure => have := HH.out; omega
        case rel =>
          have hh := HH.out
          have hm := HM.out
          refine ⟨h + 1, hi, by go_num, rfl, by omega, by omega, hhb, by omega, S2, Lib.hid ⟨fun k h1 h2 => ?_, I.out.2⟩⟩
          by_cases e : k < h
          · refine lexB_step4 ?_ (HS.out k h (by omega) e (by omega))
            rw [← HXY.out.1, ← HXY.out.2]
            exact HV.out
          · rw [show k = h by omega, ← HXY.out.1, ← HXY.out.2]
            exact HV.out
    · obtain rfl : lo = hi := by omega
      have hlz : ¬ (lo : Int) < (lo : Int) := by omega
      clear hm
      go_wp2
      go_loopg [17] sz (fun kx s17 wr => ∃ (k : Nat) (dk : Array Int), s17 = .int .i64 k ∧ lo ≤ k ∧ k ≤ m ∧ k - lo ≤ kx ∧ dk.size = sz ∧ Aside (SW enc w0 blk off dk wr) ∧ Hid (Down d dk m k ∧ PermIn a (m + 1) d dk))
      case atStart => exact ⟨m, d, rfl, hhb, Nat.le_refl _, by omega, hs, S1, Lib.hid ⟨Down.start d m, permIn_refl d a (m + 1)⟩⟩
      case round =>
        clear S1
        obtain ⟨k, dk, rfl, hlk, hkm, hkx, hds, S1, HU⟩ := hrel
        by_cases hlt : lo < k
        · have hkz : (lo : Int) < (k : Int) := by omega
          obtain ⟨jN, hjN⟩ : ∃ q, q + 1 = k := ⟨k - 1, by omega⟩
          have ra : IntKind.i64.wrap ((k : Int) - 1) = (jN : Int) := by rw [IntKind.wrap_i64]; omega
          have ba : (k : Int) < (sz : Int) := by omega
          have bc : (jN : Int) < (sz : Int) := by omega
          obtain ⟨x, hx⟩ : ∃ x, x = dk[k]! := ⟨_, rfl⟩
          obtain ⟨y, hy⟩ : ∃ x, x = dk[jN]! := ⟨_, rfl⟩
          have S2 : Aside (SW enc w0 blk off (swp dk k jN) ((wr.setCell ⟨blk, off + k, none⟩ (enc y)).setCell ⟨blk, off + jN, none⟩ (enc x)).drew) := by
            rw [hx, hy]; exact S1.out.swapped HT.out.R k jN (by omega) (by omega)
          have c1 := S1.out.c1 HT.out.R (by omega) k (by omega)
          have c2 := S1.out.c1 HT.out.R (by omega) jN (by omega)
          have f1 := S1.out.f1 HT.out.R (by omega) k (by omega)
          have f2 := S1.out.f1 HT.out.R (by omega) jN (by omega)
          obtain ⟨u, c3⟩ := S1.out.c2 HT.out.R (by omega) k jN (by omega) (by omega) (enc y)
          rw [← hy] at c2
          rw [← hx] at c1
          have HJ := Lib.hid hjN
          clear S1 hx hy hjN
          go_wp2_with fail
          go_big_region_o
          clear c1 c2 c3 f1 f2
          generalize ((wr.setCell ⟨blk, off + k, none⟩ (enc y)).setCell ⟨blk, off + jN, none⟩ (enc x)).drew = w2 at S2 ⊢
          go_wp2
          go_roundg (jN - lo)
          case measure => have := HJ.out; omega
          case rel =>
            have hj := HJ.out
            subst hj
            exact ⟨jN, _, rfl, by omega, by omega, by omega, by rw [size_swp]; exact hds, S2, Lib.hid ⟨HU.out.1.step hkm (by omega), permIn_trans _ _ _ a (m + 1) HU.out.2 (swp_permIn dk a (m + 1) (jN + 1) jN (by omega) (by omega) (by omega) (by omega) (by omega))⟩⟩
        · obtain rfl : lo = k := by omega
          have hkz : ¬ (lo : Int) < (lo : Int) := by omega
          go_wp2
          refine bodyPost_ret (results_none rfl _ _ _) rfl ?_
          have hm := HM.out
          subst hm
          refine ⟨rfl, dk, HU.out.2, HU.out.1.sorted L hml hhb HS.out (fun j h1 h2 => I.out.1 j h1 h2) (fun j h1 h2 => I.out.2 j h1 h2), S1.out⟩
end Go.Proofs.Ytceompmfmceicaa.Stable
