/- Part 17 of what this claim leans on: YMergeAllB. -/
import Derived.Test.YtdoooffmaokaeaaGreatDoorZ16
import Derived.Deep.Cut
/- slices.symMergeCmpFunc at []int, all of it. -/
section
set_option linter.unusedVariables false
set_option linter.unusedSimpArgs false
set_option linter.unusedSectionVars false
namespace Go.Proofs.YtdoooffmaokaeaaGreatDoor.StableB
open Go.RowKit Go.Shelf Go.Lib Go.Sort Go.Proofs Go.Proofs.MathMerge
set_option linter.unusedVariables false
set_option linter.unusedSimpArgs false

def Cross (d : Array Int) (a m b : Nat) : Prop := ∀ i j, a ≤ i → i < m → m ≤ j → j < b → d[i]! < d[j]!
structure Split (L : Int → Int) (d2 : Array Int) (a s c e b : Nat) : Prop where
  s1 : SortedIn (lexB L) a s d2
  s2 : SortedIn (lexB L) s c d2
  x1 : Cross d2 a s c
  s3 : SortedIn (lexB L) c e d2
  s4 : SortedIn (lexB L) e b d2
  x2 : Cross d2 c e b
  half : ∀ i j, a ≤ i → i < c → c ≤ j → j < b → lexB L d2[j]! d2[i]! = false
theorem rot_split {L : Int → Int} {d d2 : Array Int} {a s m e b c : Nat} (hR : Rot d d2 s m e) (s1 : SortedIn (lexB L) a m d) (s2 : SortedIn (lexB L) m b d) (hx : Cross d a m b) (has : a ≤ s) (hsm : s ≤ m) (hme : m ≤ e) (heb : e ≤ b) (hc : c = s + (e - m))
    (hlow : ∀ i j, a ≤ i → i < s → e ≤ j → j < b → lexB L d[j]! d[i]! = false) (hhigh : ∀ i j, m ≤ i → i < e → s ≤ j → j < m → lexB L d[j]! d[i]! = false) : Split L d2 a s c e b := by
  have g1 : ∀ k, k < s → d2[k]! = d[k]! := fun k h => hR.out k (Or.inl h)
  have g2 : ∀ k, s ≤ k → k < c → d2[k]! = d[k + (m - s)]! := fun k h h2 => hR.low k h (by omega)
  have g3 : ∀ k, c ≤ k → k < e → d2[k]! = d[k - (e - m)]! := fun k h h2 => hR.high k (by omega) h2
  have g4 : ∀ k, e ≤ k → d2[k]! = d[k]! := fun k h => hR.out k (Or.inr h)
  refine ⟨?_, ?_, ?_, ?_, ?_, ?_, ?_⟩
  · intro p q h1 h2 h3
    rw [g1 p (by omega), g1 q h3]
    exact s1 p q h1 h2 (by omega)
  · intro p q h1 h2 h3
    rw [g2 p h1 (by omega), g2 q (by omega) h3]
    exact s2 _ _ (by omega) (by omega) (by omega)
  · intro i j h1 h2 h3 h4
    rw [g1 i h2, g2 j h3 h4]
    exact hx _ _ h1 (by omega) (by omega) (by omega)
  · intro p q h1 h2 h3
    rw [g3 p h1 (by omega), g3 q (by omega) h3]
    exact s1 _ _ (by omega) (by omega) (by omega)
  · intro p q h1 h2 h3
    rw [g4 p h1, g4 q (by omega)]
    exact s2 p q (by omega) h2 h3
  · intro i j h1 h2 h3 h4
    rw [g3 i h1 h2, g4 j h3]
    exact hx _ _ (by omega) (by omega) (by omega) h4
  · intro i j h1 h2 h3 h4
    by_cases c1 : i < s
    · rw [g1 i c1]
      by_cases c2 : j < e
      · rw [g3 j h3 c2]
        exact s1 _ _ h1 (by omega) (by omega)
      · rw [g4 j (by omega)]
        exact hlow i j h1 c1 (by omega) h4
    · rw [g2 i (by omega) h2]
      by_cases c2 : j < e
      · rw [g3 j h3 c2]
        exact hhigh _ _ (by omega) (by omega) (by omega) (by omega)
      · rw [g4 j (by omega)]
        exact s2 _ _ (by omega) (by omega) h4
/-- Where the two runs are cut. -/
theorem cut_low {L : Int → Int} {d : Array Int} {a m b s e lo0 : Nat} (s1 : SortedIn (lexB L) a m d) (s2 : SortedIn (lexB L) m b d) (hsm : s ≤ m) (hme : m ≤ e) (h0 : lo0 ≤ s) (hz : s = lo0 → s = a ∨ e = b) (hq : lo0 < s → lexB L d[e]! d[s - 1]! = false) :
    ∀ i j, a ≤ i → i < s → e ≤ j → j < b → lexB L d[j]! d[i]! = false := by
  intro i j h1 h2 h3 h4
  have hls : lo0 < s := by
    rcases Nat.lt_or_ge lo0 s with h | h
    · exact h
    · rcases hz (by omega) with h | h <;> omega
  have hq := hq hls
  have h5 : lexB L d[e]! d[i]! = false := by
    by_cases c : i = s - 1
    · rw [c]; exact hq
    · exact lexB_step4 hq (s1 i (s - 1) h1 (by omega) (by omega))
  by_cases c : j = e
  · rw [c]; exact h5
  · exact lexB_step4 (s2 e j (by omega) (by omega) h4) h5
theorem cut_high {L : Int → Int} {d : Array Int} {a m b s e r0 : Nat} (s1 : SortedIn (lexB L) a m d) (s2 : SortedIn (lexB L) m b d) (has : a ≤ s) (heb : e ≤ b) (h0 : s ≤ r0) (hz : s = r0 → s = m ∨ e = m) (hq : s < r0 → lexB L d[e - 1]! d[s]! = true) :
    ∀ i j, m ≤ i → i < e → s ≤ j → j < m → lexB L d[j]! d[i]! = false := by
  intro i j h1 h2 h3 h4
  have hls : s < r0 := by
    rcases Nat.lt_or_ge s r0 with h | h
    · exact h
    · rcases hz (by omega) with h | h <;> omega
  have hq := hq hls
  have h5 : lexB L d[i]! d[s]! = true := by
    by_cases c : i = e - 1
    · rw [c]; exact hq
    · exact lexB_step hq (s2 i (e - 1) h1 (by omega) (by omega))
  have h6 : lexB L d[i]! d[j]! = true := by
    by_cases c : j = s
    · rw [c]; exact h5
    · exact lexB_step3 h5 (s1 s j has (by omega) h4)
  exact (swo L).asymmA h6

/-- The merge of what is no longer than N. -/
def MergeOk (L : Int → Int) (enc : Int → Value) (g : Nat) (cb : Array Value) (blk off cap sz : Nat) (w0 : World) (N : Nat) : Prop := ∀ (a m b : Nat) (d : Array Int) (w : World), b - a ≤ N → a < m → m < b → b ≤ sz → d.size = sz → SW enc w0 blk off d w → SortedIn (lexB L) a m d → SortedIn (lexB L) m b d → Cross d a m b →
    Calls Tryz.prog 101 #[.slice (some ⟨blk, off, none⟩) sz cap, .int .i64 a, .int .i64 m, .int .i64 b, .func (.func g) #[] cb] w (Merged L enc blk off a b d w0)
set_option maxHeartbeats 32000000 in
set_option maxRecDepth 1000000 in
theorem symMerge_step (L : Int → Int) (enc : Int → Value) (cf : Int → Int → Int) (g : Nat) (cb : Array Value) (blk off cap sz : Nat) (d0 : Array Int) (w0 : World) (T : Told L enc cf g cb blk off d0 w0) (h0 : d0.size = sz) (N : Nat) (IH : Hid (MergeOk L enc g cb blk off cap sz w0 N)) (a m b : Nat) (d : Array Int) (w : World) (hN : b - a ≤ N + 1) (ham : a < m) (hmb : m < b) (hb : b ≤ sz) (hs : d.size = sz) (S : SW enc w0 blk off d w) (s1 : SortedIn (lexB L) a m d) (s2 : SortedIn (lexB L) m b d) (hx : Cross d a m b) (e1 : ¬ m = a + 1) (e2 : ¬ b = m + 1) :
    Calls Tryz.prog 101 #[.slice (some ⟨blk, off, none⟩) sz cap, .int .i64 a, .int .i64 m, .int .i64 b, .func (.func g) #[] cb] w (Merged L enc blk off a b d w0) := by
  have mixed := mixed
  have eg := T.eg
  have hsz := T.sz
  have S0 : Aside (SW enc w0 blk off d w) := S
  have HT := Lib.hid T
  have HX := Lib.hid hx; have H1 := Lib.hid s1; have H2 := Lib.hid s2
  clear S T hx s1 s2
  obtain ⟨n1, hn1⟩ : ∃ n1, n1 + a = m := ⟨m - a, by omega⟩
  obtain ⟨n2, hn2⟩ : ∃ n2, n2 + m = b := ⟨b - m, by omega⟩
  have z0 : IntKind.i64.wrap ((m : Int) - (a : Int)) = (n1 : Int) := by rw [IntKind.wrap_i64]; omega
  have z02 : ((n1 : Int) == 1) = false := by simp only [beq_eq_false_iff_ne, ne_eq]; omega
  have z03 : ¬ (n1 : Int) = 1 := by omega
  have z1 : IntKind.i64.wrap ((b : Int) - (m : Int)) = (n2 : Int) := by rw [IntKind.wrap_i64]; omega
  have z12 : ((n2 : Int) == 1) = false := by simp only [beq_eq_false_iff_ne, ne_eq]; omega
  have z13 : ¬ (n2 : Int) = 1 := by omega
  obtain ⟨c, hc⟩ : ∃ c, c = (a + b) / 2 := ⟨_, rfl⟩
  have zc : ((a : Int) + (b : Int)) / 2 = (c : Int) := by omega
  obtain ⟨n, hn⟩ : ∃ n, n = c + m := ⟨_, rfl⟩
  have zn : IntKind.i64.wrap ((c : Int) + (m : Int)) = (n : Int) := by rw [IntKind.wrap_i64]; omega
  obtain ⟨p, hp⟩ : ∃ p, p + 1 = n := ⟨n - 1, by omega⟩
  have zp : IntKind.i64.wrap ((n : Int) - 1) = (p : Int) := by rw [IntKind.wrap_i64]; omega
  obtain ⟨lo0, r0, hlr⟩ : ∃ lo0 r0 : Nat, (c < m ∧ lo0 + b = n ∧ r0 = c) ∨ (m ≤ c ∧ lo0 = a ∧ r0 = m) := by
    by_cases h : c < m
    · exact ⟨n - b, c, .inl ⟨h, by omega, rfl⟩⟩
    · exact ⟨a, m, .inr ⟨by omega, rfl, rfl⟩⟩
  have HG := Lib.hid (And.intro hn1 (And.intro hn2 (And.intro hc (And.intro hn hp))))
  have HLR := Lib.hid hlr
  clear hn1 hn2 hc hn hp hlr e1 e2
  go_enter Tryz.func101, Tryz.ntmps101
  go_upto_if 140 with fail
  go_cut [20, 21] from 25 (fun s20 s21 wx => s20 = .int .i64 (lo0 : Int) ∧ s21 = .int .i64 (r0 : Int) ∧ w = wx)
  case first =>
    clear zp z0 z02 z03 z1 z12 z13
    obtain ⟨hn1, hn2, hc, hn, hp⟩ := HG.out
    rcases HLR.out with ⟨h1, h2, h3⟩ | ⟨h1, h2, h3⟩
    · have hz : (c : Int) < (m : Int) := by omega
      have zl : IntKind.i64.wrap ((n : Int) - (b : Int)) = (lo0 : Int) := by rw [IntKind.wrap_i64]; omega
      clear hn1 hn2 hc hn hp
      go_wp2
      go_meet
      exact ⟨rfl, by rw [h3], rfl⟩
    · have hz : ¬ (c : Int) < (m : Int) := by omega
      clear hn1 hn2 hc hn hp
      go_wp2
      go_meet
      exact ⟨by rw [h2], by rw [h3], rfl⟩
  case rest =>
  obtain ⟨rfl, rfl, rfl⟩ := hcut
  go_wp2
  clear zp z0 z02 z03 z1 z12 z13 zn zc
  go_loopg [20, 21] sz (fun kx s20 s21 wr => ∃ lo hi : Nat, s20 = .int .i64 lo ∧ s21 = .int .i64 hi ∧ lo0 ≤ lo ∧ lo ≤ hi ∧ hi ≤ r0 ∧ hi - lo ≤ kx ∧ Aside (SW enc w0 blk off d wr) ∧ Hid ((lo0 < lo → lexB L d[p - (lo - 1)]! d[lo - 1]! = false) ∧ (hi < r0 → lexB L d[p - hi]! d[hi]! = true)))
  case atStart =>
    obtain ⟨hn1, hn2, hc, hn, hp⟩ := HG.out
    have hlr := HLR.out
    exact ⟨lo0, r0, rfl, rfl, Nat.le_refl _, by omega, Nat.le_refl _, by omega, S0, Lib.hid ⟨fun h => absurd h (Nat.lt_irrefl _), fun h => absurd h (Nat.lt_irrefl _)⟩⟩
  case round =>
    clear S0
    obtain ⟨lo, hi, rfl, rfl, hml, hlh, hhb, hkx, S1, I⟩ := hrel
    by_cases hlt : lo < hi
    · have hlz : (lo : Int) < (hi : Int) := by omega
      obtain ⟨h, hh⟩ : ∃ h, h = (lo + hi) / 2 := ⟨_, rfl⟩
      have zh : ((lo : Int) + (hi : Int)) / 2 = (h : Int) := by omega
      have hh1 : lo ≤ h ∧ h < hi := by omega
      have HR : h < m ∧ m ≤ p - h ∧ p - h < b ∧ h ≤ p ∧ a ≤ h := by
        obtain ⟨hn1, hn2, hc, hn, hp⟩ := HG.out
        have hlr := HLR.out
        omega
      obtain ⟨t, ht⟩ : ∃ t, t = p - h := ⟨_, rfl⟩
      have zt : IntKind.i64.wrap ((p : Int) - (h : Int)) = (t : Int) := by rw [IntKind.wrap_i64]; omega
      have l1 := S1.out.cl HT.out.R (by omega) h (by omega)
      have l2 := S1.out.cl HT.out.R (by omega) t (by omega)
      obtain ⟨y, hye⟩ : ∃ y, y = d[h]! := ⟨_, rfl⟩
      obtain ⟨x, hxe⟩ : ∃ x, x = d[t]! := ⟨_, rfl⟩
      rw [← hye] at l1
      rw [← hxe] at l2
      have hc := S1.out.cmp HT.out.hC (by omega) x y
      have hlx : ltB L x y = lexB L x y := lt_lex (by rw [hxe, hye]; exact HX.out h t (by omega) (by omega) (by omega) (by omega))
      have hcf := HT.out.lt x y
      rw [hlx] at hcf
      have bh : (h : Int) < (sz : Int) := by omega
      have ba : (t : Int) < (sz : Int) := by omega
      have HXY := Lib.hid (And.intro hxe hye)
      have HH := Lib.hid hh1
      have HTT := Lib.hid ht
      have HRR := Lib.hid HR
      clear hxe hye hh hlx hh1 ht HR
      cases hv : lexB L x y with
      | true =>
        have hv2 : cf x y < 0 := hcf.2 hv
        have hd2 : decide (cf x y < 0) = true := decide_eq_true hv2
        have HV := Lib.hid hv
        clear hcf hv
        go_wp2_with fail
        go_quiet_grown (first | (go_at_fn g; refine Calls.grown_of (hc _ _)))
        have S2 : Aside (SW enc w0 blk off d (grow (wr.drewN nq) osq)) := S1.out.grown nq osq
        clear l1 l2 hc S1
        generalize grow (wr.drewN nq) osq = w2 at S2 ⊢
        clear nq osq zh zt
        go_wp2
        go_roundg (h - lo)
        case measure => have := HH.out; omega
        case rel =>
          have hh := HH.out
          refine ⟨lo, h, rfl, rfl, hml, by omega, by omega, by omega, S2, Lib.hid ⟨I.out.1, fun h1 => ?_⟩⟩
          rw [← HTT.out, ← HXY.out.1, ← HXY.out.2]
          exact HV.out
      | false =>
        have hv2 : ¬ cf x y < 0 := fun h => by rw [hcf.1 h] at hv; cases hv
        have hd2 : decide (cf x y < 0) = false := decide_eq_false hv2
        have HV := Lib.hid hv
        clear hcf hv
        go_wp2_with fail
        go_quiet_grown (first | (go_at_fn g; refine Calls.grown_of (hc _ _)))
        have S2 : Aside (SW enc w0 blk off d (grow (wr.drewN nq) osq)) := S1.out.grown nq osq
        clear l1 l2 hc S1
        generalize grow (wr.drewN nq) osq = w2 at S2 ⊢
        clear nq osq zh zt
        go_wp2
        go_roundg (hi - (h + 1))
        case measure => have := HH.out; omega
        case rel =>
          have hh := HH.out
          refine ⟨h + 1, hi, by go_num, rfl, by omega, by omega, hhb, by omega, S2, Lib.hid ⟨fun h1 => ?_, I.out.2⟩⟩
          rw [Nat.add_sub_cancel, ← HTT.out, ← HXY.out.1, ← HXY.out.2]
          exact HV.out
    · obtain rfl : lo = hi := by omega
      have hlz : ¬ (lo : Int) < (lo : Int) := by omega
      obtain ⟨e, he⟩ : ∃ e, e + lo = n := ⟨n - lo, by
        obtain ⟨hn1, hn2, hc, hn, hp⟩ := HG.out
        have hlr := HLR.out
        omega⟩
      have ze : IntKind.i64.wrap ((n : Int) - (lo : Int)) = (e : Int) := by
        obtain ⟨hn1, hn2, hc, hn, hp⟩ := HG.out
        rw [IntKind.wrap_i64]; omega
      have HF : a ≤ lo ∧ lo ≤ m ∧ m ≤ e ∧ e ≤ b ∧ c = lo + (e - m) ∧ a < c ∧ c < b ∧ p + 1 = n := by
        obtain ⟨hn1, hn2, hc, hn, hp⟩ := HG.out
        have hlr := HLR.out
        omega
      have HLow := Lib.hid (cut_low H1.out H2.out HF.2.1 HF.2.2.1 hml (fun h => by
        obtain ⟨hn1, hn2, hc, hn, hp⟩ := HG.out
        have hlr := HLR.out
        omega) (fun h => by
        have h2 := I.out.1 h
        rw [show p - (lo - 1) = e by omega] at h2
        exact h2))
      have HHigh := Lib.hid (cut_high H1.out H2.out HF.1 HF.2.2.2.1 hhb (fun h => by
        obtain ⟨hn1, hn2, hc, hn, hp⟩ := HG.out
        have hlr := HLR.out
        omega) (fun h => by
        have h2 := I.out.2 h
        rw [show p - lo = e - 1 by omega] at h2
        exact h2))
      have HFF := Lib.hid HF
      clear he HF hml hhb hkx I
      go_upto_region 39 with fail
      go_cut [185] from 25 (fun s185 wx => s185 = .bool (decide (lo < m ∧ m < e)) ∧ wr = wx)
      case first =>
        clear ze
        by_cases c1 : lo < m
        · have c1z : (lo : Int) < (m : Int) := by omega
          by_cases c2 : m < e
          · have c2z : (m : Int) < (e : Int) := by omega
            have hd : decide (lo < m ∧ m < e) = true := decide_eq_true ⟨c1, c2⟩
            go_wp2
            go_meet
            exact ⟨by rw [hd], rfl⟩
          · have c2z : ¬ (m : Int) < (e : Int) := by omega
            have hd : decide (lo < m ∧ m < e) = false := decide_eq_false (by omega)
            go_wp2
            go_meet
            exact ⟨by rw [hd], rfl⟩
        · have c1z : ¬ (lo : Int) < (m : Int) := by omega
          have hd : decide (lo < m ∧ m < e) = false := decide_eq_false (by omega)
          go_wp2
          go_meet
          exact ⟨by rw [hd], rfl⟩
      case rest =>
      obtain ⟨rfl, rfl⟩ := hcut
      clear ze
      go_upto_if 185 with fail
      go_cut [] from 25 (fun wx => ∃ d2 : Array Int, d2.size = sz ∧ Aside (SW enc w0 blk off d2 wx) ∧ Hid (PermIn a b d d2 ∧ Split L d2 a lo c e b))
      case first =>
        by_cases c1 : lo < m ∧ m < e
        · have hd : decide (lo < m ∧ m < e) = true := decide_eq_true c1
          rw [hd]
          have hr := rotate_any enc g cb blk off cap lo m e d0 d w0 wr HT.out.R (by omega) S1.out c1.1 c1.2 (by have := HFF.out; omega) (by omega)
          rw [hs] at hr
          go_wp2_with fail
          refine hr.mono ?_
          rintro e' w2 ⟨rfl, d2, hR, hP, S2⟩
          have S3 : Aside (SW enc w0 blk off d2 w2) := S2
          have HRR := Lib.hid (And.intro hR hP)
          clear hr hR hP S2 S1
          go_wp2
          go_meet
          obtain ⟨f1, f2, f3, f4, f5, f6, f7, f8⟩ := HFF.out
          exact ⟨d2, HRR.out.1.size.trans hs, S3, Lib.hid ⟨permIn_mono d d2 lo e a b f1 f4 (by omega) HRR.out.2, rot_split HRR.out.1 H1.out H2.out HX.out f1 f2 f3 f4 f5 HLow.out HHigh.out⟩⟩
        · have hd : decide (lo < m ∧ m < e) = false := decide_eq_false c1
          rw [hd]
          go_wp2
          go_meet
          obtain ⟨f1, f2, f3, f4, f5, f6, f7, f8⟩ := HFF.out
          exact ⟨d, hs, S1, Lib.hid ⟨permIn_refl d a b, rot_split ⟨rfl, fun k h1 h2 => by rw [show k + (m - lo) = k by omega], fun k h1 h2 => by rw [show k - (e - m) = k by omega], fun k _ => rfl⟩ H1.out H2.out HX.out f1 f2 f3 f4 f5 HLow.out HHigh.out⟩⟩
      case rest =>
      as_aux_lemma =>
        obtain ⟨d2, hs2, S2, HP⟩ := hcut
        clear S1
        go_upto_region 41 with fail
        go_cut [199] from 25 (fun s199 wx => s199 = .bool (decide (a < lo ∧ lo < c)) ∧ wc = wx)
        case first =>
          by_cases c1 : a < lo
          · have c1z : (a : Int) < (lo : Int) := by omega
            by_cases c2 : lo < c
            · have c2z : (lo : Int) < (c : Int) := by omega
              have hd : decide (a < lo ∧ lo < c) = true := decide_eq_true ⟨c1, c2⟩
              go_wp2
              go_meet
              exact ⟨by rw [hd], rfl⟩
            · have c2z : ¬ (lo : Int) < (c : Int) := by omega
              have hd : decide (a < lo ∧ lo < c) = false := decide_eq_false (by omega)
              go_wp2
              go_meet
              exact ⟨by rw [hd], rfl⟩
          · have c1z : ¬ (a : Int) < (lo : Int) := by omega
            have hd : decide (a < lo ∧ lo < c) = false := decide_eq_false (by omega)
            go_wp2
            go_meet
            exact ⟨by rw [hd], rfl⟩
        case rest =>
        obtain ⟨rfl, rfl⟩ := hcut
        go_upto_if 199 with fail
        go_cut [] from 25 (fun wx => ∃ d3 : Array Int, d3.size = sz ∧ Aside (SW enc w0 blk off d3 wx) ∧ Hid (PermIn a c d2 d3 ∧ SortedIn (lexB L) a c d3))
        case first =>
          by_cases c1 : a < lo ∧ lo < c
          · have hd : decide (a < lo ∧ lo < c) = true := decide_eq_true c1
            rw [hd]
            have hr := IH.out a lo c d2 wc (by have := HFF.out; omega) c1.1 c1.2 (by have := HFF.out; omega) hs2 S2.out HP.out.2.s1 HP.out.2.s2 HP.out.2.x1
            go_wp2_with fail
            refine hr.mono ?_
            rintro e' w3 ⟨rfl, d3, hP, hS, S3⟩
            have S4 : Aside (SW enc w0 blk off d3 w3) := S3
            have HRR := Lib.hid (And.intro hP hS)
            clear hr hP hS S3 S2
            go_wp2
            go_meet
            exact ⟨d3, HRR.out.1.1.trans hs2, S4, HRR⟩
          · have hd : decide (a < lo ∧ lo < c) = false := decide_eq_false c1
            rw [hd]
            go_wp2
            go_meet
            refine ⟨d2, hs2, S2, Lib.hid ⟨permIn_refl d2 a c, ?_⟩⟩
            have hff := HFF.out
            by_cases c2 : a < lo
            · rw [show c = lo by omega]; exact HP.out.2.s1
            · have := HP.out.2.s2
              rw [show a = lo by omega]; exact this
        case rest =>
        obtain ⟨d3, hs3, S3, HQ⟩ := hcut
        clear S2
        go_upto_region 43 with fail
        go_cut [213] from 25 (fun s213 wx => s213 = .bool (decide (c < e ∧ e < b)) ∧ wc = wx)
        case first =>
          by_cases c1 : c < e
          · have c1z : (c : Int) < (e : Int) := by omega
            by_cases c2 : e < b
            · have c2z : (e : Int) < (b : Int) := by omega
              have hd : decide (c < e ∧ e < b) = true := decide_eq_true ⟨c1, c2⟩
              go_wp2
              go_meet
              exact ⟨by rw [hd], rfl⟩
            · have c2z : ¬ (e : Int) < (b : Int) := by omega
              have hd : decide (c < e ∧ e < b) = false := decide_eq_false (by omega)
              go_wp2
              go_meet
              exact ⟨by rw [hd], rfl⟩
          · have c1z : ¬ (c : Int) < (e : Int) := by omega
            have hd : decide (c < e ∧ e < b) = false := decide_eq_false (by omega)
            go_wp2
            go_meet
            exact ⟨by rw [hd], rfl⟩
        case rest =>
        obtain ⟨rfl, rfl⟩ := hcut
        go_upto_if 213 with fail
        have hf3 : ∀ d4 w', SW enc w0 blk off d4 w' → PermIn c b d3 d4 ∧ SortedIn (lexB L) c b d4 → ∃ d', PermIn a b d d' ∧ SortedIn (lexB L) a b d' ∧ SW enc w0 blk off d' w' := by
          intro d4 w' hS hU
          have hff := HFF.out
          obtain ⟨hp1, hp2⟩ := halves (a := a) (c := c) (b := b) (by omega) (by omega) (by omega) HP.out.2.half HQ.out.1 HQ.out.2 hU.1 hU.2
          exact ⟨d4, permIn_trans _ _ _ a b HP.out.1 hp1, hp2, hS⟩
        have HFIN := Lib.hid hf3
        have g : ∀ k, c ≤ k → d3[k]! = d2[k]! := fun k h => HQ.out.1.2.1 k (Or.inr h)
        have t3 : SortedIn (lexB L) c e d3 := fun p q h1 h2 h3 => by rw [g p h1, g q (by omega)]; exact HP.out.2.s3 p q h1 h2 h3
        have hce : c ≤ e := by have := HFF.out; omega
        have t4 : SortedIn (lexB L) e b d3 := fun p q h1 h2 h3 => by rw [g p (by omega), g q (by omega)]; exact HP.out.2.s4 p q h1 h2 h3
        have tx : Cross d3 c e b := fun i j h1 h2 h3 h4 => by rw [g i h1, g j (by omega)]; exact HP.out.2.x2 i j h1 h2 h3 h4
        have HT3 := Lib.hid t3; have HT4 := Lib.hid t4; have HTX := Lib.hid tx
        clear g t3 t4 tx hf3
        by_cases c1 : c < e ∧ e < b
        · have hd : decide (c < e ∧ e < b) = true := decide_eq_true c1
          rw [hd]
          have hr := IH.out c e b d3 wc (by have := HFF.out; omega) c1.1 c1.2 hb hs3 S3.out HT3.out HT4.out HTX.out
          go_wp2_with fail
          refine hr.mono ?_
          rintro e' w4 ⟨rfl, d4, hP, hS, S4⟩
          have S5 : Aside (SW enc w0 blk off d4 w4) := S4
          have HRR := Lib.hid (And.intro hP hS)
          clear hr hP hS S3 S4
          go_wp2
          go_end0
          exact ⟨rfl, HFIN.out d4 w4 S5.out HRR.out⟩
        · have hd : decide (c < e ∧ e < b) = false := decide_eq_false c1
          rw [hd]
          go_wp2
          go_end0
          refine ⟨rfl, HFIN.out d3 _ S3.out ⟨permIn_refl d3 c b, ?_⟩⟩
          have hff := HFF.out
          by_cases c2 : c < e
          · have := HT3.out
            rw [show b = e by omega]; exact this
          · have := HT4.out
            rw [show c = e by omega]; exact this

theorem symMerge_any (L : Int → Int) (enc : Int → Value) (cf : Int → Int → Int) (g : Nat) (cb : Array Value) (blk off cap sz : Nat) (d0 : Array Int) (w0 : World) (T : Told L enc cf g cb blk off d0 w0) (h0 : d0.size = sz) (N : Nat) : MergeOk L enc g cb blk off cap sz w0 N := by
  induction N with
  | zero => intro a m b d w hN ham hmb; omega
  | succ N ih =>
    intro a m b d w hN ham hmb hb hs S s1 s2 hx
    by_cases e1 : m = a + 1
    · subst e1
      exact symMerge_one L enc cf g cb blk off cap a b sz d0 d w0 w T h0 hs S hmb hb s2 fun k h1 h2 => hx a k (Nat.le_refl _) (by omega) h1 h2
    · by_cases e2 : b = m + 1
      · subst e2
        exact symMerge_last L enc cf g cb blk off cap a m sz d0 d w0 w T h0 hs S (by omega) hb s1 fun k h1 h2 => hx k m h1 h2 (Nat.le_refl _) (by omega)
      · exact symMerge_step L enc cf g cb blk off cap sz d0 w0 T h0 N (Lib.hid ih) a m b d w hN ham hmb hb hs S s1 s2 hx e1 e2
end Go.Proofs.YtdoooffmaokaeaaGreatDoor.StableB
end
