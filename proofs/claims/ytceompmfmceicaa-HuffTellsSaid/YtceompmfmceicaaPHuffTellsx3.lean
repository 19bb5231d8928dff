-- written by a program of this project (print2)
import Derived.Test.YtceompmfmceicaaPHuffTellsx0
import Derived.Test.YtceompmfmceicaaPHuffTellsx2
namespace Go.Proofs.Ytceompmfmceicaa.PHuffTells
open Go.RowKit Go.Proofs.YtceompmfmceicaaW.PrintMine Go.Proofs.YtceompmfmceicaaW.PrintWords Go.Proofs.YtceompmfmceicaaW.PrintLast Go.Proofs.YtceompmfmceicaaW.PrintMore
attribute [local go_sem] max2_int min2_int max_two min_two max_three min_three max_four min_four   -- for this text's walks alone
set_option linter.unusedVariables false
set_option linter.unusedSimpArgs false

-- with calls, making: yes
/-! ### huff_Codes: function 10, by hand -/
def codesS (l : List Int) : List S33 := (Go.Proofs.MathCodes.codes l).map fun p => ⟨p.1, p.2⟩
open Go.Proofs.MathCodes in
theorem fits_go (l : List Int) (hl : l.length = 256) : ∀ (m i : Nat) (k : Nat), i + m = 256 → 2 * m < k → (∀ c, c < i → 0 ≤ len l c ∧ len l c ≤ 40) → huff_fits.l0 k (sumTo l i) (cntTo l i) (maxTo l i) l 256 (i : Int) = some (inB l && kraftB l) := by
 intro m
 induction m with
 | zero =>
  intro i k hi hk hin
  obtain ⟨k, rfl⟩ : ∃ q, k = q + 1 := ⟨k - 1, by omega⟩
  obtain rfl : i = 256 := by omega
  have h1 : inB l = true := inB_iff.2 hin
  unfold huff_fits.l0
  try dsimp only
  rw [if_neg (by omega), h1]
  unfold kraftB
  simp only [Bool.true_and]
  by_cases c1 : cntTo l 256 = 0
  ·rw [if_pos c1, c1]; rfl
  ·rw [if_neg c1]
   have c1' : (cntTo l 256 == 0) = false := by simpa using c1
   rw [c1', Bool.false_or]
   by_cases c2 : cntTo l 256 = 1
   ·rw [if_pos c2, c2]
    by_cases c3 : maxTo l 256 = 1
    ·rw [if_pos c3, c3]; rfl
    ·have c3' : (maxTo l 256 == 1) = false := by simpa using c3
     rw [if_neg c3, c3']; rfl
   ·have c2' : (cntTo l 256 == 1) = false := by simpa using c2
    rw [if_neg c2, c2']; rfl
 | succ m ih =>
  intro i k hi hk hin
  obtain ⟨k, rfl⟩ : ∃ q, k = q + 1 + 1 := ⟨k - 2, by omega⟩
  have hrd : rd l (i : Int) = len l i := by unfold rd len; rw [Int.toNat_natCast]
  unfold huff_fits.l0
  try dsimp only
  rw [if_pos (by omega), if_pos (by omega), if_pos (by omega), hrd]
  have bad : ¬ (0 ≤ len l i ∧ len l i ≤ 40) → inB l = false := by
   intro h
   cases hb : inB l with
   | false => rfl
   | true => exact absurd (inB_iff.1 hb i (by omega)) h
  by_cases c1 : len l i < 0
  ·rw [if_pos c1, bad (by omega)]
   unfold huff_fits.j1
   try dsimp only
   rw [if_pos rfl]; rfl
  ·rw [if_neg c1]
   by_cases c2 : len l i > 40
   ·rw [decide_eq_true c2, bad (by omega)]
    unfold huff_fits.j1
    try dsimp only
    rw [if_pos rfl]; rfl
   ·rw [decide_eq_false c2]
    unfold huff_fits.j1
    try dsimp only
    rw [if_neg (by decide)]
    have hin' : ∀ c, c < i + 1 → 0 ≤ len l c ∧ len l c ≤ 40 := fun c hc => by
     by_cases e : c = i
     ·subst e; omega
     ·exact hin c (by omega)
    have ih' := ih (i + 1) k (by omega) (by omega) hin'
    have w1 : wrap64 ((i : Int) + 1) = ((i + 1 : Nat) : Int) := by unfold wrap64; omega
    by_cases c3 : len l i > 0
    ·have w2 : wrap64 (40 - len l i) = 40 - len l i := by unfold wrap64; omega
     rw [if_pos c3, w2, if_pos (by omega), w1]
     have hs := sumTo_bd l i fun c hc => (hin c hc).2
     have hp := part_bd (len l i) (by omega)
     have hc := cntTo_bd l i
     have hsh : shl .i64 1 (40 - len l i) = Go.Proofs.MathCodes.part (len l i) := by
      unfold shl Go.Proofs.MathCodes.part
      rw [if_pos c3, Nat.min_eq_left (by show _ ≤ 64; omega), Int.one_mul]
      unfold Go.Proofs.MathCodes.part at hp
      rw [if_pos c3] at hp
      generalize (2 : Int) ^ (40 - len l i).toNat = y at *
      rw [IntKind.wrap_i64]; omega
     rw [hsh]
     have w3 : wrap64 (sumTo l i + Go.Proofs.MathCodes.part (len l i)) = sumTo l (i + 1) := by
      have e : sumTo l (i + 1) = sumTo l i + Go.Proofs.MathCodes.part (len l i) := rfl
      rw [e]
      generalize Go.Proofs.MathCodes.part (len l i) = y at *
      unfold wrap64; omega
     have w4 : wrap64 (cntTo l i + 1) = cntTo l (i + 1) := by
      have e : cntTo l (i + 1) = cntTo l i + 1 := by show _ + (if 0 < len l i then 1 else 0) = _; rw [if_pos (by omega)]
      rw [e]; unfold wrap64; omega
     have w5 : mx (maxTo l i) (len l i) = maxTo l (i + 1) := by
      show _ = if 0 < len l i then (if maxTo l i < len l i then len l i else maxTo l i) else maxTo l i
      rw [if_pos (by omega)]
      unfold mx
      (repeat' split) <;> omega
     rw [w3, w4, w5]
     exact ih'
    ·rw [if_neg c3, w1]
     have w3 : sumTo l (i + 1) = sumTo l i := by show _ + Go.Proofs.MathCodes.part (len l i) = _; unfold Go.Proofs.MathCodes.part; rw [if_neg (by omega)]; omega
     have w4 : cntTo l (i + 1) = cntTo l i := by show _ + (if 0 < len l i then 1 else 0) = _; rw [if_neg (by omega)]; omega
     have w5 : maxTo l (i + 1) = maxTo l i := by
      show (if 0 < len l i then (if maxTo l i < len l i then len l i else maxTo l i) else maxTo l i) = _
      rw [if_neg (by omega)]
     rw [w3, w4, w5] at ih'
     exact ih'
open Go.Proofs.MathCodes in
theorem fits_f (l : List Int) : huff_fits.f 600 l = some (fitsB l) := by
 unfold huff_fits.f fitsB
 by_cases h : l.length = 256
 ·have h' : (l.length : Int) = 256 := by omega
  rw [if_pos h', h', decide_eq_true h]
  exact fits_go l h 256 0 600 (by omega) (by omega) (fun c hc => absurd hc (Nat.not_lt_zero _))
 ·rw [if_neg (by omega), decide_eq_false h]; rfl
def huff_Codes.f (l0 : List Int) : Option (List S33 × Int) := if Go.Proofs.MathCodes.fitsB l0 = true then some (codesS l0, 0) else some ([], 2)
theorem codes_row (w : World) (base O : Nat) (o : List (Int × Int)) (n : Nat) (hn : o.length = n) (hm : n ≤ 1000000) (hb : base ≤ O) (h : w.heap[O]? = some (.cells (Go.Proofs.Ytceompmfmceicaa.Codes.ccells o).toArray 33 (0, 0))) :
  Kd.R k33 33 w base (fun _ => True) (.slice (some ⟨O, 0, none⟩) n n) (o.map fun p => (⟨p.1, p.2⟩ : S33)) := by
 have hl := Go.Proofs.Ytceompmfmceicaa.Codes.ccells_length o
 refine ⟨fun _ _ => trivial, Go.Proofs.Ytceompmfmceicaa.Codes.ccells o, ⟨?_, .inr ⟨O, n, _, ?_, hb, h, ?_, ?_, ?_, ?_⟩⟩, ?_, ?_⟩
 ·rw [List.length_map]; exact hl
 ·rw [List.length_map, hn]
 ·rw [List.length_map]; omega
 ·unfold maxLen; omega
 ·rw [List.size_toArray, hl, hn]; rfl
 ·rw [List.take_of_length_le]
  rw [List.length_map, hl]
  exact Nat.le_refl _
 ·rw [List.length_map]; exact hl
 ·intro j p hp
  rw [List.getElem?_map] at hp
  obtain ⟨q, hq, rfl⟩ := Option.map_eq_some_iff.1 hp
  obtain ⟨h1, h2⟩ := Go.Proofs.Ytceompmfmceicaa.Codes.ccells_get o j q hq
  have e : ((Go.Proofs.Ytceompmfmceicaa.Codes.ccells o).drop (j * 2)).take 2 = [Value.int .i64 q.1, Value.int .u64 q.2] := by
   apply List.ext_getElem?
   intro i
   match i with
   | 0 => simp [List.getElem?_take, h1]
   | 1 => simp [List.getElem?_take, h2]
   | i + 2 =>
    rw [List.getElem?_take, if_neg (by omega)]
    rfl
  exact ⟨[.int .i64 q.1], [.int .u64 q.2], e, rfl, rfl⟩
theorem huff_Codes.calls (A0 : Option Addr) (c0 : Nat) (l0 : List Int) (r1 : List S33) (r2 : Int) (w : World) (hr0 : Kd.C (Kd.int .i64) w A0 l0.length l0) (hc0 : l0.length ≤ c0) (h : huff_Codes.f l0 = some (r1, r2)) :
  Calls Try.prog 10 #[.slice A0 l0.length c0] w fun e w' => ∃ v0_ : Value, e = .returned (.tuple #[v0_, .int .i64 r2]) ∧ Kd.R k33 33 w' w.heap.size (fun _ => True) v0_ r1 ∧ Below w.heap.size w w' := by
 have HF : ∀ W, Below w.heap.size w W → Calls Try.prog 22 #[.slice A0 l0.length c0] W fun e w' => e = .returned (.bool (Go.Proofs.MathCodes.fitsB l0)) ∧ Below W.heap.size W w' :=
  fun W hb => huff_fits.calls 600 A0 c0 l0 _ W (Kd.C_below hr0 hb) hc0 (fits_f l0)
 unfold huff_Codes.f at h
 cases hB : Go.Proofs.MathCodes.fitsB l0 with
 | false =>
  rw [hB] at h HF
  rw [if_neg (by decide)] at h
  obtain ⟨rfl, rfl⟩ := Prod.mk.inj (Option.some.inj h)
  refine (Go.Proofs.Ytceompmfmceicaa.Codes.codes_no l0 A0 c0 w HF).mono ?_
  rintro e w' ⟨he, hb⟩
  exact ⟨_, he, Kd.R_nil _ _ _ _ _, hb⟩
 | true =>
  rw [hB] at h HF
  rw [if_pos rfl] at h
  obtain ⟨rfl, rfl⟩ := Prod.mk.inj (Option.some.inj h)
  obtain ⟨hl, hin⟩ := Go.Proofs.MathCodes.fitsB_in hB
  refine (Go.Proofs.Ytceompmfmceicaa.Codes.codes_yes l0 A0 c0 w hr0 hl hin HF).mono ?_
  rintro e w' ⟨O, he, hO, hx, hb⟩
  have hol : (Go.Proofs.MathCodes.codes l0).length = 256 := by rw [← Go.Proofs.MathCodes.upto_all l0 _ (Nat.le_refl _)]; exact Go.Proofs.MathCodes.upto_out _ _
  exact ⟨_, he, codes_row w' w.heap.size O _ 256 hol (by omega) hO hx, hb⟩

-- making: no
/-! ### huff_Cost: function 15, by hand -/
def huff_Cost.f (l0 l1 : List Int) : Option Int := if l1.length ≤ 1000000 then some (Go.Proofs.Ytceompmfmceicaa.Huff.costF l0 l1) else none
theorem huff_Cost.calls (A0 : Option Addr) (c0 : Nat) (l0 : List Int) (A1 : Option Addr) (c1 : Nat) (l1 : List Int) (r : Int) (w : World) (hr0 : Kd.C (Kd.int .i64) w A0 l0.length l0) (hc0 : l0.length ≤ c0) (hr1 : Kd.C (Kd.int .i64) w A1 l1.length l1) (hc1 : l1.length ≤ c1) (h : huff_Cost.f l0 l1 = some r) :
  Calls Try.prog 15 #[.slice A0 l0.length c0, .slice A1 l1.length c1] w fun e w' => e = .returned (.int .i64 r) ∧ Drawn0 w w' := by
 unfold huff_Cost.f at h
 split at h
 ·rename_i hl
  obtain rfl := Option.some.inj h
  refine (Go.Proofs.Ytceompmfmceicaa.Huff.cost_any A0 A1 c0 c1 l0 l1 w hr0 hr1 hl).mono ?_
  rintro e w' ⟨he, rfl⟩
  exact ⟨he, Drawn0.refl _⟩
 ·cases h

/-! ### word_Mask: function 46 -/
def word_Mask.f (a0 : Int) : Option (Int) := if a0 ≤ 0 then (some 0) else (some (shr .u64 18446744073709551615 (mx 0 (wrap64 (64 - a0)))))
set_option maxHeartbeats 8000000 in
set_option maxRecDepth 100000 in
theorem word_Mask.calls (a0 : Int) (r : Int) (w : World) (h : word_Mask.f a0 = some r) :
  Calls Try.prog 46 #[.int .i64 a0] w fun e w' => e = .returned (.int .u64 r) ∧ Below w.heap.size w w' := by
 have HB := Aside0.mk (Below.refl w.heap.size w)
 have H : (if a0 ≤ 0 then (some 0) else (some (shr .u64 18446744073709551615 (mx 0 (wrap64 (64 - a0)))))) = some r := h
 clear h
 by_cases c2 : a0 ≤ 0
 ·rw [if_pos c2] at H
  have c2b0 : decide (a0 ≤ 0) = true := decide_eq_true c2
  clear c2
  obtain rfl := Option.some.inj H
  go_enter Try.func46, Try.ntmps46
  go_wp2
  go_ret
  exact ⟨by first | rfl | (simp [errW_none, errW_some] <;> rfl) | (simp [*, errW_none, errW_some] <;> rfl), by repeat (first | (with_reducible first | exact HB.out | apply below_alloc | apply pw_below_drewN | apply below_drew1) | exact HB.out)⟩
 ·rw [if_neg c2] at H
  have c2b0 : decide (a0 ≤ 0) = false := decide_eq_false c2
  clear c2
  obtain ⟨ji3, hji3⟩ : ∃ j_ : Int, (mx 0 (wrap64 (64 - a0))) = j_ := ⟨_, rfl⟩
  replace H : (some (shr .u64 18446744073709551615 (ji3))) = some r := by first | (rw [hji3] at H; exact H) | (simp only [hji3] at H ⊢; exact H)
  (try (have hji3l : 0 ≤ ji3 := by (rw [← hji3]; unfold mx; (repeat' split) <;> omega)))
  (try (have hji3m : 0 ≤ ji3 := by omega))
  have hji3_ : (if 0 < (wrap64 (64 - a0)) then (wrap64 (64 - a0)) else 0) = ji3 := hji3
  obtain ⟨ji4, hji4⟩ : ∃ j_ : Int, (shr .u64 18446744073709551615 (ji3)) = j_ := ⟨_, rfl⟩
  replace H : (some ji4) = some r := by first | (rw [hji4] at H; exact H) | (simp only [hji4] at H ⊢; exact H)
  have hji4_ : (18446744073709551615 / 2 ^ min (ji3).toNat 64) = ji4 := hji4
  have hji4z : (ji3) ≤ 64 → (18446744073709551615 / 2 ^ (ji3).toNat) = ji4 := shr_small hji4
  obtain rfl := Option.some.inj H
  go_enter Try.func46, Try.ntmps46
  go_wp2
  go_ret
  exact ⟨by first | rfl | (simp [errW_none, errW_some] <;> rfl) | (simp only [← hji3, ← hji4]; first | rfl | (simp [errW_none, errW_some] <;> rfl)) | (simp [*, errW_none, errW_some] <;> rfl), by repeat (first | (with_reducible first | exact HB.out | apply below_alloc | apply pw_below_drewN | apply below_drew1) | exact HB.out)⟩

/-! ### bits_words: function 48 -/
def bits_words.f (a0 : Int) : Option (Int) := some (wrap64 (Int.tdiv (wrap64 ((wrap64 (a0 + 64)) - 1)) 64))
set_option maxHeartbeats 8000000 in
set_option maxRecDepth 100000 in
theorem bits_words.calls (a0 : Int) (r : Int) (w : World) (h : bits_words.f a0 = some r) :
  Calls Try.prog 48 #[.int .i64 a0] w fun e w' => e = .returned (.int .i64 r) ∧ Drawn0 w w' := by
 have H : (some (wrap64 (Int.tdiv (wrap64 ((wrap64 (a0 + 64)) - 1)) 64))) = some r := h
 clear h
 obtain rfl := Option.some.inj H
 go_enter Try.func48, Try.ntmps48
 go_wp2
 go_ret
 exact ⟨by first | rfl | (simp; done) | (simp [*]; done), by repeat (first | exact Drawn0.refl _ | apply Drawn0.step)⟩

end Go.Proofs.Ytceompmfmceicaa.PHuffTells
