/- huff's heap: pop: walked by hand. -/
import Derived.Test.YtceompmfmceicaaYHeap
namespace Go.Proofs.Ytceompmfmceicaa.Heap
open Go.RowKit Go.Shelf Go.Lib Go.Proofs Go.Proofs.YtceompmfmceicaaW.PrintWords Go.Proofs.MathHeap
set_option linter.unusedVariables false
set_option linter.unusedSimpArgs false

theorem wp_scope_again {P : Program} {a : Act} {w : World} {Q : Exit → Act → World → Prop} {c rest : Code} (l : Nat) (J : Act → World → Prop) (μ : Act → World → Nat) (hf : findLabel c l = some (Code.skip.seq rest))
    (pass : ∀ a w, J a w → rest.wp P (Exit.jump l (fun a' w' => J a' w' ∧ μ a' w' < μ a w) Q) a w)
    (first : Hid (∀ a w, J a w → rest.wp P (Exit.jump l J Q) a w) → c.wp P (Exit.jump l J Q) a w) : (Code.scope c).wp P Q a w :=
  wp_scope_jumps l J μ hf (first (Lib.hid fun a w h => Code.wp_mono (fun e a' w' he => by cases e <;> first | exact ⟨he.1, he.2.1⟩ | exact he) (pass a w h))) fun a w h => wp_seq (wp_skip (pass a w h))

/-- On the way down. -/
structure Down (T : List Th) (l : List Nat) (L : Nat → Nat) (n i : Nat) : Prop where
  inv : DownInv (ltT T) L n i
  ids : (ids L n).Perm l
  lt : ∀ k, k < n → L k < T.length
def PFrame (H x i : Nat) (a : Act) : Prop := ∃ u : Nat → Value, a = { tmps := #[.pointer (some ⟨H, 0, none⟩), u 1, .int .i64 0, .int .i64 (x : Int), .int .i64 (i : Int), u 5, u 6, u 7, u 8, u 9, u 10, u 11, u 12, u 13, u 14, u 15, u 16, u 17, u 18, u 19, u 20, u 21, u 22, u 23, u 24, u 25, u 26, u 27, u 28, u 29, u 30, u 31, u 32, u 33, u 34, u 35, u 36, u 37, u 38, u 39, u 40, u 41, u 42, u 43, u 44, u 45, u 46, u 47, u 48, u 49, u 50, u 51, u 52, u 53, u 54, u 55, u 56, u 57, u 58, u 59, u 60, u 61, u 62, u 63, u 64, u 65, u 66, u 67, u 68, u 69, u 70, u 71, u 72, u 73, u 74, u 75, u 76, u 77, u 78, u 79, u 80, u 81, u 82, u 83, u 84], defers := [] }
/-- What holds at the label. -/
def PJ (base H : Nat) (v : Value) (T : List Th) (l' : List Nat) (n x : Nat) (W0 : World) (a : Act) (W : World) : Prop := ∃ (i : Nat) (L' : Nat → Nat), PFrame H x i a ∧ i ≤ n ∧ Hid (Hp base H v T L' n W) ∧ Hid (Down T l' L' n i) ∧ Hid (Kp H W0 W)
structure Best (T : List Th) (L : Nat → Nat) (n i k m : Nat) : Prop where
  it : m = i ∨ (0 < m ∧ m < n ∧ par m = i ∧ ltT T (L m) (L i) = true)
  kids : ∀ c, c < k → 2 * i + 1 + c < n → ltT T (L (2 * i + 1 + c)) (L m) = false
theorem ord_trans {lt : Nat → Nat → Bool} (O : Ord lt) {x y z : Nat} (h1 : lt x y = true) (h2 : lt y z = true) : lt x z = true := by
  cases h : lt x z with
  | true => rfl
  | false =>
    have := O.ntrans _ _ _ h (O.asymm _ _ h2)
    rw [h1] at this
    cases this
theorem Best.same {T : List Th} {L : Nat → Nat} {n i k m : Nat} (h : Best T L n i k m) (hf : 2 * i + 1 + k < n → ltT T (L (2 * i + 1 + k)) (L m) = false) : Best T L n i (k + 1) m :=
  ⟨h.it, fun c hc hn => by
    by_cases e : c = k
    · subst e; exact hf hn
    · exact h.kids c (by omega) hn⟩
theorem Best.more {T : List Th} (O : Ord (ltT T)) {L : Nat → Nat} {n i k m c : Nat} (h : Best T L n i k m) (hc : c = 2 * i + 1 + k) (hcn : c < n) (hr : ltT T (L c) (L m) = true) (hk : k < 2 := by omega) : Best T L n i (k + 1) c := by
  refine ⟨.inr ⟨by omega, hcn, by unfold par; omega, ?_⟩, fun d hd hn => ?_⟩
  · rcases h.it with rfl | h
    · exact hr
    · exact ord_trans O hr h.2.2.2
  · by_cases e : d = k
    · subst e
      rw [← hc]
      exact O.irrefl _
    · exact O.ntrans _ _ _ (h.kids d (by omega) hn) (O.asymm _ _ hr)
def Popped (base H : Nat) (v : Value) (T : List Th) (l : List Nat) (n : Nat) (W : World) (e : Ending) (w' : World) : Prop :=
  ∃ (x : Nat) (l' : List Nat) (L' : Nat → Nat), e = .returned (.int .i64 (x : Int)) ∧ l.Perm (x :: l') ∧ (∀ y ∈ l', ltT T y x = false) ∧ Hp base H v T L' n w' ∧ Heaped T l' L' n ∧ Kp H W w'
theorem run_pair (a b c : Int) (w : World) (h : c = 0 ∨ c = 1) : (Instr.index 79 (.agg #[.int .i64 a, .int .i64 b]) (.int .i64 c)).run Try.prog w = .ok (.int .i64 (if c = 0 then a else b)) w := by
  rcases h with rfl | rfl
  · kernel_rfl
  · kernel_rfl
set_option maxHeartbeats 8000000 in
set_option maxRecDepth 100000 in
theorem pop_any (HB : Bef) {base H : Nat} {v : Value} {T : List Th} {L : Nat → Nat} {n : Nat} {l : List Nat} {W : World} (h : Hp base H v T L (n + 1) W) (O : Ord (ltT T)) (hh : Heaped T l L (n + 1)) (hl : ∀ y ∈ l, y < T.length) (hn : n < 511) :
    Calls Try.prog 21 #[.pointer (some ⟨H, 0, none⟩)] W (Popped base H v T l n W) := by
  have mixed := mixed'
  have kn := h.celln
  have k0 := h.cell 0 (by omega)
  have h1 := h.set 513 (.int .i64 (n : Int)) (hcells_set_n v L (n + 1) n)
  have kn1 := h1.celln
  have kl := h1.cell n (by omega)
  have k01 := h1.cell 0 (by omega)
  have h2 := (h1.set (1 + 0) (.int .i64 (L n : Int)) (hcells_set_l v L n 0 (L n) (by omega))).drew
  have hkp : Kp H W (((W.setCell ⟨H, 513, none⟩ (.int .i64 (n : Int))).setCell ⟨H, 1 + 0, none⟩ (.int .i64 (L n : Int))).drew) := ((Kp.set H W _ _).trans (Kp.set H _ _ _)).drew
  have hlt := hh.lt hl
  have hdn : Down T (ids (upd L 0 (L n)) n) (upd L 0 (L n)) n 0 := by
    refine ⟨DownInv.start hh.ord, List.Perm.refl _, fun k hk => ?_⟩
    unfold upd
    split
    · exact hlt _ (by omega)
    · exact hlt _ (by omega)
  have hpm : l.Perm (L 0 :: ids (upd L 0 (L n)) n) := hh.ids.symm.trans (ids_pop L n)
  have hmin : ∀ y ∈ ids (upd L 0 (L n)) n, ltT T y (L 0) = false := by
    intro y hy
    have hy2 : y ∈ ids L (n + 1) := (ids_pop L n).mem_iff.2 (List.mem_cons_of_mem _ hy)
    obtain ⟨k, hk, rfl⟩ := List.mem_map.1 hy2
    exact HeapOrd.least O hh.ord k (List.mem_range.1 hk)
  have H2 := Lib.hid h2; have HK := Lib.hid hkp; have HD := Lib.hid hdn; have HO := Lib.hid O; have HP := Lib.hid hpm; have HM := Lib.hid hmin
  have e1 : ((n + 1 : Nat) : Int) = (n : Int) + 1 := by omega
  rw [e1] at kn
  obtain ⟨kn, kn'⟩ := kn; obtain ⟨kl, kl'⟩ := kl; obtain ⟨kn1, kn1'⟩ := kn1; obtain ⟨k0, k0'⟩ := k0; obtain ⟨k01, k01'⟩ := k01
  have n0 : (0 : Int) ≤ (n : Int) := by omega
  have n1 : (n : Int) < 511 := by omega
  have n2 : (n : Int) < 512 := by omega
  rw [Nat.add_zero] at k0 k0' k01 k01' H2 HK
  generalize L n = y at *
  generalize hx : L 0 = x at *
  clear h h1 h2 hkp hdn O hh hl e1 hpm hmin hlt hx
  go_enter Try.func21, Try.ntmps21
  go_wp2
  refine wp_scope_again 0 (PJ base H v T (ids (upd L 0 y) n) n x W) (fun a _ => n - (intOf (a.tmps.getD 4 undef)).toNat) rfl ?pass ?first
  case first =>
    intro hp
    go_wp2
    go_big_region_o
    clear kn kn' kl kl' kn1 kn1' k0 k0' k01 k01' n0 n1 n2
    generalize ((W.setCell ⟨H, 513, none⟩ (.int .i64 (n : Int))).setCell ⟨H, 1, none⟩ (.int .i64 (y : Int))).drew = W2 at H2 HK ⊢
    go_wp2
    go_step3
    rename_i HK1
    refine HK1 _ _ ?_
    refine hp.out _ _ ?_
    exact ⟨0, _, ⟨fun k => (#[undef, _, undef, undef, undef, _, _, _, _, _, _, _, _, _, _, _, _, _, _, _, _, _, _, _, _, _, _, _, _, _, _, _, _, _, _, _, _, _, _, _, _, _, _, _, _, _, _, _, _, _, _, _, _, _, _, _, _, _, _, _, _, _, _, _, _, _, _, _, _, _, _, _, _, _, _, _, _, _, _, _, _, _, _, _, _] : Array Value).getD k undef, rfl⟩, Nat.zero_le _, H2, HD, HK⟩
  case pass =>
    clear kn kn' kl kl' kn1 kn1' k0 k0' k01 k01' n0 n1 n2 H2 HK HD
    rintro a W1 ⟨i, L', ⟨u, rfl⟩, hi, HH, HD, HK⟩
    have b0 : (0 : Int) ≤ (i : Int) := by omega
    have b1 : (i : Int) < 511 := by omega
    go_wp2
    go_loopg [5, 7, 41] 2 (fun gk s5 s7 s41 wr => ∃ (k m : Nat), s5 = .int .i64 m ∧ s41 = .int .i64 k ∧ k ≤ 2 ∧ 2 - k ≤ gk ∧ m < 511 ∧ Hid (Best T L' n i k m) ∧ Hid (Hp base H v T L' n wr) ∧ Hid (Kp H W wr))
    case atStart => exact ⟨0, i, rfl, rfl, by omega, by omega, by omega, Lib.hid ⟨.inl rfl, fun c hc => absurd hc (Nat.not_lt_zero _)⟩, HH, HK⟩
    case round =>
      clear HH HK
      obtain ⟨k, m, rfl, rfl, hk, hgk, hm, HBS, HH, HK⟩ := hrel
      by_cases hk2 : k < 2
      · have hkz : (k : Int) < 2 := by omega
        obtain ⟨c, hc⟩ : ∃ c, c = 2 * i + 1 + k := ⟨_, rfl⟩
        have hix : ∀ w, (Instr.index 79 (.agg #[.int .i64 (2 * (i : Int) + 1), .int .i64 (2 * (i : Int) + 2)]) (.int .i64 (k : Int))).run Try.prog w = .ok (.int .i64 (c : Int)) w := by
          intro w
          rw [run_pair _ _ _ _ (by omega)]
          split
          · rw [show 2 * (i : Int) + 1 = (c : Int) by omega]
          · rw [show 2 * (i : Int) + 2 = (c : Int) by omega]
        have kn := HH.out.celln.1
        by_cases hcn : c < n
        · have hcz : (c : Int) < (n : Int) := by omega
          have hD := HD.out
          have hmn : m < n := by
            rcases HBS.out.it with rfl | h
            · omega
            · exact h.2.1
          have hcall := less_any HB HH.out c m (by omega) (by omega) _ _ (getD_of (hD.lt c hcn)) (getD_of (hD.lt m hmn))
          cases hr : bef (T.getD (L' c) none_) (T.getD (L' m) none_) with
          | true =>
            rw [hr] at hcall
            have hb2 : Hid (Best T L' n i (k + 1) c) := Lib.hid (HBS.out.more HO.out hc hcn hr)
            have HC := Lib.hid hc
            clear hr hc hD
            go_wp2_with fail
            refine hcall.mono ?_
            rintro e w2 ⟨rfl, hb⟩
            have HH2 := Lib.hid (HH.out.later hb)
            have HK2 := Lib.hid (HK.out.trans (Kp.below hb))
            clear hcall HH HK hb kn hix
            go_wp2
            go_roundg (2 - (k + 1))
            case measure => omega
            case rel => exact ⟨k + 1, c, rfl, by go_num, by omega, by omega, by omega, hb2, HH2, HK2⟩
          | false =>
            rw [hr] at hcall
            have hb2 : Hid (Best T L' n i (k + 1) m) := Lib.hid (HBS.out.same fun _ => by rw [← hc]; exact hr)
            clear hr hD
            have HC := Lib.hid hc
            clear hc
            go_wp2_with fail
            refine hcall.mono ?_
            rintro e w2 ⟨rfl, hb⟩
            have HH2 := Lib.hid (HH.out.later hb)
            have HK2 := Lib.hid (HK.out.trans (Kp.below hb))
            clear hcall HH HK hb kn hix
            go_wp2
            go_roundg (2 - (k + 1))
            case measure => omega
            case rel => exact ⟨k + 1, m, rfl, by go_num, by omega, by omega, hm, hb2, HH2, HK2⟩
        · have hcz : ¬ (c : Int) < (n : Int) := by omega
          have hb2 : Hid (Best T L' n i (k + 1) m) := Lib.hid (HBS.out.same fun h => by omega)
          have HC := Lib.hid hc
          clear hc
          go_wp2
          go_roundg (2 - (k + 1))
          case measure => omega
          case rel => exact ⟨k + 1, m, rfl, by go_num, by omega, by omega, hm, hb2, HH, HK⟩
      · obtain rfl : k = 2 := by omega
        have hkz : ¬ ((2 : Nat) : Int) < 2 := by omega
        by_cases hmi : m = i
        · subst hmi
          have hz : ((m : Int) != (m : Int)) = false := by simp
          go_wp2
          simp only [Exit.jump]
          go_ret
          refine ⟨x, _, L', rfl, HP.out, HM.out, HH.out, ⟨HD.out.inv.stop fun j h1 h2 h3 => ?_, HD.out.ids⟩, HK.out⟩
          obtain ⟨c, hc⟩ : ∃ c, j = 2 * m + 1 + c := ⟨j - (2 * m + 1), by unfold par at h3; omega⟩
          have := HBS.out.kids c (by unfold par at h3; omega) (by omega)
          rw [← hc] at this
          exact this
        · have hz : ((m : Int) != (i : Int)) = true := by rw [bne_iff_ne]; omega
          obtain ⟨m0, mn, mp, ml⟩ := HBS.out.it.resolve_left hmi
          have him : i < m := by unfold par at mp; omega
          have hh2 := HH.out
          obtain ⟨c1, f1⟩ := hh2.cell i (by omega)
          obtain ⟨c2, f2⟩ := hh2.cell m (by omega)
          have hs1 := hh2.set (1 + i) (.int .i64 (L' m : Int)) (hcells_set_l v L' n i (L' m) (by omega))
          have c3 := (hs1.cell m (by omega)).1
          have e3 : upd L' i (L' m) m = L' m := by unfold upd; rw [if_neg (by omega)]
          rw [e3] at c3
          have hs2 := hs1.set (1 + m) (.int .i64 (L' i : Int)) (hcells_set_l v _ n m (L' i) (by omega))
          have e4 : upd (upd L' i (L' m)) m (L' i) = swap L' i m := by
            funext k
            by_cases q1 : k = i
            · subst q1
              simp [upd, swap, show k ≠ m by omega]
            · by_cases q2 : k = m
              · subst q2
                simp [upd, swap, q1]
              · simp [upd, swap, q1, q2]
          rw [e4] at hs2
          have HS := Lib.hid hs2.drew
          have HK3 := Lib.hid ((HK.out.trans ((Kp.set H wr (1 + i) (.int .i64 (L' m : Int))).trans (Kp.set H _ (1 + m) (.int .i64 (L' i : Int))))).drew)
          have HUP : Hid (Down T (ids (upd L 0 y) n) (swap L' i m) n m) := by
            have hD := HD.out
            refine Lib.hid ⟨hD.inv.step HO.out m0 mn mp ml fun j h1 h2 h3 => ?_, (ids_swap L' n i m (by omega) mn).trans hD.ids, fun k hk => ?_⟩
            · obtain ⟨c, hc⟩ : ∃ c, j = 2 * i + 1 + c := ⟨j - (2 * i + 1), by unfold par at h3; omega⟩
              have := HBS.out.kids c (by unfold par at h3; omega) (by omega)
              rw [← hc] at this
              exact this
            · unfold swap
              split
              · exact hD.lt _ mn
              · split
                · exact hD.lt _ (by omega)
                · exact hD.lt k hk
          generalize L' i = y1 at *
          generalize L' m = y2 at *
          have b2 : (i : Int) < 512 := by omega
          have b3 : (0 : Int) ≤ (m : Int) := by omega
          have b4 : (m : Int) < 512 := by omega
          clear hs1 hs2 e3 e4 hh2 HD HK HBS HH ml mp m0
          go_wp2
          go_big_region_o
          clear c1 c2 c3 f1 f2
          generalize ((wr.setCell ⟨H, 1 + i, none⟩ (.int .i64 (y2 : Int))).setCell ⟨H, 1 + m, none⟩ (.int .i64 (y1 : Int))).drew = w3 at HS HK3 ⊢
          go_wp2
          go_step3
          show 0 = 0 ∧ (PJ base H v T (ids (upd L 0 y) n) n x W _ _ ∧ _ < _)
          refine ⟨rfl, ⟨m, _, ⟨fun k => (#[undef, _, undef, undef, undef, _, _, _, _, _, _, _, _, _, _, _, _, _, _, _, _, _, _, _, _, _, _, _, _, _, _, _, _, _, _, _, _, _, _, _, _, _, _, _, _, _, _, _, _, _, _, _, _, _, _, _, _, _, _, _, _, _, _, _, _, _, _, _, _, _, _, _, _, _, _, _, _, _, _, _, _, _, _, _, _] : Array Value).getD k undef, rfl⟩, by omega, HS, HUP, HK3⟩, ?_⟩
          simp [intOf]
          omega
end Go.Proofs.Ytceompmfmceicaa.Heap
