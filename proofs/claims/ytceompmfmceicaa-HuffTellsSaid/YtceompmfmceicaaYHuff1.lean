/- slices.IndexFunc, ContainsFunc at []int, huff.counted, huff.Cost: walked by hand. -/
import Derived.Test.YtceompmfmceicaaYBase
import Derived.Test.YtceompmfmceicaaWMore
import Derived.Deep.LoopGhost
import Derived.Shelf.Abstract
namespace Go.Proofs.Ytceompmfmceicaa.Huff
open Go.RowKit Go.Shelf Go.Lib Go.Proofs Go.Proofs.YtceompmfmceicaaW.PrintWords
set_option linter.unusedVariables false
set_option linter.unusedSimpArgs false

theorem rdn (l : List Int) (k : Nat) (h : k < l.length) : rd l (k : Int) = l[k] := by
  unfold rd
  rw [Int.toNat_natCast, List.getD_eq_getElem?_getD, List.getElem?_eq_getElem h]
  rfl
def idxP (p : Int → Bool) (l : List Int) : Int := if l.any p then (l.findIdx p : Int) else -1
theorem idxP_hit (p : Int → Bool) (l : List Int) (k : Nat) (hk : k < l.length) (h : p (rd l k) = true) (hn : ∀ j, j < k → p (rd l j) = false) : idxP p l = k := by
  unfold idxP
  rw [rdn l k hk] at h
  rw [if_pos (List.any_eq_true.2 ⟨_, List.getElem_mem hk, h⟩)]
  congr 1
  rw [List.findIdx_eq hk]
  exact ⟨h, fun j hj => by rw [← rdn l j (by omega)]; exact hn j hj⟩
theorem idxP_miss (p : Int → Bool) (l : List Int) (hn : ∀ j, j < l.length → p (rd l j) = false) : idxP p l = -1 := by
  unfold idxP
  rw [if_neg]
  intro h
  obtain ⟨x, hx, hp⟩ := List.any_eq_true.1 h
  obtain ⟨j, hj, rfl⟩ := List.mem_iff_getElem.1 hx
  have := hn j hj
  rw [rdn l j hj, hp] at this
  cases this
theorem idxP_nonneg (p : Int → Bool) (l : List Int) : decide (0 ≤ idxP p l) = l.any p := by
  unfold idxP
  cases h : l.any p
  · rfl
  · rw [if_pos rfl]
    exact decide_eq_true (by omega)
/-- What is asked of a predicate. -/
def Pred (g : Nat) (p : Int → Bool) : Prop := ∀ (x : Int) (W : World), Calls Try.prog g #[.int .i64 x] W fun e w' => e = .returned (.bool (p x)) ∧ W = w'
set_option maxHeartbeats 4000000 in
set_option maxRecDepth 20000 in
theorem indexFunc_any (g : Nat) (eg : ∀ args w, (callFunc g args).run Try.prog w = .ok (.enter g args) w) (p : Int → Bool) (hp : Pred g p) (A : Option Addr) (c : Nat) (l : List Int) (w : World) (hr : Kd.C (Kd.int .i64) w A l.length l) (hl : l.length ≤ 1000000) :
    Calls Try.prog 43 #[.slice A l.length c, .func (.func g) #[] #[]] w fun e w' => e = .returned (.int .i64 (idxP p l)) ∧ w = w' := by
  have HP := Lib.hid hp
  have HR := Lib.hid hr
  clear hp hr
  go_enter Try.func43, Try.ntmps43
  go_wp2
  go_loop [5, 8] (fun s5 s8 => ∃ k : Nat, s8 = .int .i64 k ∧ k ≤ l.length ∧ Hid (∀ j, j < k → p (rd l j) = false)) (fun _ s8 => l.length - (intOf s8).toNat)
  case atStart => exact ⟨0, rfl, Nat.zero_le _, Lib.hid fun j hj => absurd hj (Nat.not_lt_zero _)⟩
  case round =>
    obtain ⟨k, rfl, hk, HN⟩ := hrel
    by_cases hlt : k < l.length
    · have hlz : (k : Int) < (l.length : Int) := by omega
      have h0 : (0 : Int) ≤ (k : Int) := by omega
      obtain ⟨ad, rfl, hc⟩ := Kd.at_int HR.out (k : Int) h0 hlz
      rw [Int.toNat_natCast] at hc
      obtain ⟨x, hx⟩ : ∃ x, x = rd l (k : Int) := ⟨_, rfl⟩
      rw [← hx] at hc
      have HX := Lib.hid hx
      clear hx
      cases hq : p x with
      | true =>
        have hcall := HP.out x w
        rw [hq] at hcall
        have HQ := Lib.hid hq
        clear hq
        go_wp2_with (go_at_fn g; refine hcall.mono ?_; rintro e w' ⟨rfl, rfl⟩)
        go_ret
        refine ⟨?_, rfl⟩
        rw [idxP_hit p l k hlt (by rw [← HX.out]; exact HQ.out) HN.out]; rfl
      | false =>
        have hcall := HP.out x w
        rw [hq] at hcall
        have HQ := Lib.hid hq
        clear hq
        go_wp2_with (go_at_fn g; refine hcall.mono ?_; rintro e w' ⟨rfl, rfl⟩)
        go_round
        case rel =>
          refine ⟨k + 1, by go_num, by omega, Lib.hid fun j hj => ?_⟩
          by_cases e : j = k
          · rw [e, ← HX.out]; exact HQ.out
          · exact HN.out j (by omega)
        case measure => simp [intOf]; omega
    · obtain rfl : k = l.length := by omega
      have hlz : ¬ (l.length : Int) < (l.length : Int) := by omega
      go_wp2
      go_ret
      exact ⟨by rw [idxP_miss p l HN.out]; rfl, rfl⟩
set_option maxHeartbeats 4000000 in
theorem containsFunc_any (g : Nat) (eg : ∀ args w, (callFunc g args).run Try.prog w = .ok (.enter g args) w) (p : Int → Bool) (hp : Pred g p) (A : Option Addr) (c : Nat) (l : List Int) (w : World) (hr : Kd.C (Kd.int .i64) w A l.length l) (hl : l.length ≤ 1000000) :
    Calls Try.prog 31 #[.slice A l.length c, .func (.func g) #[] #[]] w fun e w' => e = .returned (.bool (l.any p)) ∧ w = w' := by
  have hcall := indexFunc_any g eg p hp A c l w hr hl
  have HE := Lib.hid (idxP_nonneg p l)
  go_enter Try.func31, Try.ntmps31
  go_wp2_with (go_at_call 43; refine hcall.mono ?_; rintro e w' ⟨rfl, rfl⟩)
  go_ret
  rw [← HE.out]
  exact ⟨rfl, rfl⟩
def outP (m : Int) (x : Int) : Bool := decide (x < 0) || decide (m < x)
theorem pred_counted : Pred 39 (outP 1048576) := by
  intro x W
  unfold outP
  by_cases h1 : x < 0
  · go_enter Try.func39, Try.ntmps39
    go_wp2
    go_ret
    exact ⟨by simp [h1], rfl⟩
  · by_cases h2 : 1048576 < x
    all_goals
      go_enter Try.func39, Try.ntmps39
      go_wp2
      go_ret
      exact ⟨by simp [h1, h2], rfl⟩
theorem pred_cost : Pred 30 (outP 40) := by
  intro x W
  unfold outP
  by_cases h1 : x < 0
  · go_enter Try.func30, Try.ntmps30
    go_wp2
    go_ret
    exact ⟨by simp [h1], rfl⟩
  · by_cases h2 : 40 < x
    all_goals
      go_enter Try.func30, Try.ntmps30
      go_wp2
      go_ret
      exact ⟨by simp [h1, h2], rfl⟩
def countedB (l : List Int) : Bool := decide (l.length = 256) && !l.any (outP 1048576)
theorem eg_counted : ∀ args w, (callFunc 39 args).run Try.prog w = .ok (.enter 39 args) w := enters_of Try.func39 (by kernel_rfl) rfl
theorem eg_cost : ∀ args w, (callFunc 30 args).run Try.prog w = .ok (.enter 30 args) w := enters_of Try.func30 (by kernel_rfl) rfl
set_option maxHeartbeats 4000000 in
theorem counted_any (A : Option Addr) (c : Nat) (l : List Int) (w : World) (hr : Kd.C (Kd.int .i64) w A l.length l) :
    Calls Try.prog 19 #[.slice A l.length c] w fun e w' => e = .returned (.bool (countedB l)) ∧ w = w' := by
  unfold countedB
  by_cases h : l.length = 256
  · have hcall := containsFunc_any _ eg_counted _ pred_counted A c l w hr (by omega)
    rw [h] at hcall ⊢
    generalize l.any (outP 1048576) = b at hcall ⊢
    go_enter Try.func19, Try.ntmps19
    go_wp2_with (go_at_call 31; refine hcall.mono ?_; rintro e w' ⟨rfl, rfl⟩)
    go_ret
    exact ⟨by simp, rfl⟩
  · have hz : ((l.length : Int) == 256) = false := by simp only [beq_eq_false_iff_ne, ne_eq]; omega
    go_enter Try.func19, Try.ntmps19
    go_wp2
    go_ret
    exact ⟨by simp [h], rfl⟩
def costTo (a b : List Int) : Nat → Int
  | 0 => 0
  | n + 1 => costTo a b n + rd a n * rd b n
def costF (a b : List Int) : Int := if countedB a && decide (b.length = 256) && !b.any (outP 40) then costTo a b 256 else 0
theorem counted_in {l : List Int} (h : countedB l = true) : l.length = 256 ∧ ∀ k : Nat, k < 256 → 0 ≤ rd l (k : Int) ∧ rd l (k : Int) ≤ 1048576 := by
  unfold countedB at h
  simp only [Bool.and_eq_true, decide_eq_true_eq, Bool.not_eq_true', List.any_eq_false] at h
  refine ⟨h.1, fun k hk => ?_⟩
  have := h.2 _ (List.getElem_mem (show k < l.length by omega))
  rw [← rdn l k (by omega)] at this
  unfold outP at this
  simp only [Bool.or_eq_true, decide_eq_true_eq] at this
  omega
theorem in40 {l : List Int} (hl : l.length = 256) (h : l.any (outP 40) = false) : ∀ k : Nat, k < 256 → 0 ≤ rd l (k : Int) ∧ rd l (k : Int) ≤ 40 := by
  intro k hk
  have := List.any_eq_false.1 h _ (List.getElem_mem (show k < l.length by omega))
  rw [← rdn l k (by omega)] at this
  unfold outP at this
  simp only [Bool.or_eq_true, decide_eq_true_eq] at this
  omega
theorem costTo_le (a b : List Int) (ha : ∀ k : Nat, k < 256 → 0 ≤ rd a (k : Int) ∧ rd a (k : Int) ≤ 1048576) (hb : ∀ k : Nat, k < 256 → 0 ≤ rd b (k : Int) ∧ rd b (k : Int) ≤ 40) : ∀ n, n ≤ 256 → 0 ≤ costTo a b n ∧ costTo a b n ≤ n * 41943040
  | 0, _ => ⟨Int.le_refl _, Int.le_refl _⟩
  | n + 1, h => by
    have ih := costTo_le a b ha hb n (by omega)
    have h1 := ha n (by omega)
    have h2 := hb n (by omega)
    have h3 : 0 ≤ rd a n * rd b n := Int.mul_nonneg h1.1 h2.1
    have h4 : rd a n * rd b n ≤ 1048576 * 40 := Int.mul_le_mul h1.2 h2.2 h2.1 (by omega)
    unfold costTo
    omega
set_option maxHeartbeats 4000000 in
set_option maxRecDepth 20000 in
theorem cost_any (A B : Option Addr) (c d : Nat) (a b : List Int) (w : World) (ha : Kd.C (Kd.int .i64) w A a.length a) (hb : Kd.C (Kd.int .i64) w B b.length b) (hbl : b.length ≤ 1000000) :
    Calls Try.prog 15 #[.slice A a.length c, .slice B b.length d] w fun e w' => e = .returned (.int .i64 (costF a b)) ∧ w = w' := by
  have hcount := counted_any A c a w ha
  have hcont := containsFunc_any _ eg_cost _ pred_cost B d b w hb hbl
  cases hc : countedB a with
  | false =>
    rw [hc] at hcount
    have hv : costF a b = 0 := by unfold costF; rw [hc]; rfl
    rw [hv]
    clear hc hcont hv
    go_enter Try.func15, Try.ntmps15
    go_wp2_with (go_at_call 19; refine hcount.mono ?_; rintro e w' ⟨rfl, rfl⟩)
    go_ret
    exact ⟨rfl, rfl⟩
  | true =>
    rw [hc] at hcount
    by_cases hl : b.length = 256
    · cases hx : b.any (outP 40) with
      | true =>
        rw [hx] at hcont
        have hv : costF a b = 0 := by unfold costF; rw [hc, hx]; simp
        rw [hv]
        clear hc hx hv
        have HL := Lib.hid hl
        rw [hl] at hcont ⊢
        clear hl
        go_enter Try.func15, Try.ntmps15
        go_wp2_with (first | (go_at_call 19; refine hcount.mono ?_; rintro e w' ⟨rfl, rfl⟩) | (go_at_call 31; refine hcont.mono ?_; rintro e w' ⟨rfl, rfl⟩))
        go_ret
        exact ⟨rfl, rfl⟩
      | false =>
        rw [hx] at hcont
        obtain ⟨hal, hai⟩ := counted_in hc
        have hbi := in40 hl hx
        have hcl := costTo_le a b hai hbi
        have hv : costF a b = costTo a b 256 := by unfold costF; rw [hc, hx, hl]; rfl
        rw [hv]
        clear hv
        have HL := Lib.hid hl; have HA := Lib.hid ha; have HB := Lib.hid hb; have HAI := Lib.hid hai; have HBI := Lib.hid hbi; have HCL := Lib.hid hcl; have HAL := Lib.hid hal
        rw [hl] at hcont ⊢
        rw [hal] at hcount ⊢
        clear hl ha hb hai hbi hcl hal hc hx
        have e256 : ((256 : Nat) : Int) = 256 := rfl
        go_enter Try.func15, Try.ntmps15
        go_wp2_with (first | (go_at_call 19; refine hcount.mono ?_; rintro e w' ⟨rfl, rfl⟩) | (go_at_call 31; refine hcont.mono ?_; rintro e w' ⟨rfl, rfl⟩))
        go_loop [6, 24] (fun s6 s24 => ∃ k : Nat, s24 = .int .i64 k ∧ k ≤ 256 ∧ s6 = .int .i64 (costTo a b k)) (fun _ s24 => 256 - (intOf s24).toNat)
        case atStart => exact ⟨0, rfl, Nat.zero_le _, rfl⟩
        case round =>
          obtain ⟨k, rfl, hk, rfl⟩ := hrel
          by_cases hlt : k < 256
          · have hlz : (k : Int) < 256 := by omega
            have h0 : (0 : Int) ≤ (k : Int) := by omega
            obtain ⟨ad, rfl, h1⟩ := Kd.at_int HA.out (k : Int) h0 (by rw [HAL.out]; omega)
            obtain ⟨bd, rfl, h2⟩ := Kd.at_int HB.out (k : Int) h0 (by rw [HL.out]; omega)
            rw [Int.toNat_natCast] at h1 h2
            have b1 := HAI.out k hlt
            have b2 := HBI.out k hlt
            have b3 := HCL.out k hk
            have b4 := HCL.out (k + 1) (by omega)
            have b5 : 0 ≤ rd a k * rd b k := Int.mul_nonneg b1.1 b2.1
            have b6 : rd a k * rd b k ≤ 1048576 * 40 := Int.mul_le_mul b1.2 b2.2 b2.1 (by omega)
            have z1 : IntKind.i64.wrap (rd a k * rd b k) = rd a k * rd b k := by
              generalize rd a k * rd b k = x at *
              rw [IntKind.wrap_i64]; omega
            have z2 : IntKind.i64.wrap (costTo a b k + rd a k * rd b k) = costTo a b k + rd a k * rd b k := by
              generalize rd a k * rd b k = x at *
              rw [IntKind.wrap_i64]; omega
            clear b1 b2 b3 b4 b5 b6
            generalize hx : rd a (k : Int) = x at *
            generalize hy : rd b (k : Int) = y at *
            have HXY := Lib.hid (And.intro hx hy)
            clear hx hy
            go_wp2
            go_round
            case rel => exact ⟨k + 1, by go_num, by omega, by show _ = Value.int .i64 (costTo a b k + rd a (k : Int) * rd b (k : Int)); rw [HXY.out.1, HXY.out.2]⟩
            case measure => simp [intOf]; omega
          · obtain rfl : k = 256 := by omega
            have hlz : ¬ (256 : Int) < 256 := by omega
            go_wp2
            go_ret
            exact ⟨rfl, rfl⟩
    · have hz : ((b.length : Int) != 256) = true := by rw [bne_iff_ne]; omega
      have hv : costF a b = 0 := by unfold costF; rw [hc]; simp [hl]
      rw [hv]
      clear hcont hv
      go_enter Try.func15, Try.ntmps15
      go_wp2_with (go_at_call 19; refine hcount.mono ?_; rintro e w' ⟨rfl, rfl⟩)
      go_ret
      exact ⟨rfl, rfl⟩
end Go.Proofs.Ytceompmfmceicaa.Huff
