/- phase: marks, sums, turns, by their contracts: complex numbers that stand for whole ones. -/
import Derived.Test.YtihnlebpbmhpgaaYBase
import Derived.Test.YtihnlebpbmhpgaaMathFlt
import Derived.Laws.ComplexArith
namespace Go.Proofs.Ytihnlebpbmhpgaa.Phase
open Go.RowKit Go.Proofs.Ytihnlebpbmhpgaa.Base Go.Proofs.MathFlt
set_option linter.unusedVariables false
set_option linter.unusedSimpArgs false

section
variable {P : Program} {w : World} {a : Addr} {m : Mode}
theorem run_store_complex (k : FloatKind) (x y : Nat) : (store a (.complex k x y) m).run P w = stored P w a (.complex k x y) m := run_store P w a _ m rfl
theorem run_store_float (k : FloatKind) (x : Nat) : (store a (.float k x) m).run P w = stored P w a (.float k x) m := run_store P w a _ m rfl
end
theorem unary_neg_float (k : FloatKind) (b : Nat) : Op.unary .neg (.float k b) = pure (.float k (Op.negFloat k b)) := rfl
attribute [local go_sem] run_store_complex run_store_float unary_neg_float
/-- A complex number that stands for whole parts. -/
def CR (v : Value) (a b : Int) : Prop := ∃ x y, v = .complex .f64 x y ∧ Rep x a ∧ Rep y b
def one64 : Nat := 4607182418800017408
def mone64 : Nat := 13830554455654793216
theorem rep_one : Rep one64 1 := by
  have h := rep_of_int 1 (by decide)
  have e : Ieee.double.write (.number (decide ((1 : Int) < 0)) (1 : Int).natAbs 0) = one64 := by decide +kernel
  rwa [e] at h
theorem rep_mone : Rep mone64 (-1) := by
  have h := rep_of_int (-1) (by decide)
  have e : Ieee.double.write (.number (decide ((-1 : Int) < 0)) (-1 : Int).natAbs 0) = mone64 := by decide +kernel
  rwa [e] at h
theorem rep_mzero : Rep 9223372036854775808 0 := ⟨true, 0, 1074, by decide +kernel, by rw [signed0, Int.zero_mul]; rfl⟩

/-- A mark's parts. -/
def pre (c : Int) : Int := if c % 4 = 0 then 1 else if c % 4 = 2 then -1 else 0
def pim (c : Int) : Int := if c % 4 = 1 then 1 else if c % 4 = 3 then -1 else 0
def markV (k : Nat) : Value := if k = 0 then .complex .f64 4607182418800017408 0 else if k = 1 then .complex .f64 0 4607182418800017408 else if k = 2 then .complex .f64 13830554455654793216 0 else .complex .f64 0 13830554455654793216
theorem cr_mark (c : Int) : CR (markV (c % 4).toNat) (pre c) (pim c) := by
  have h4 : c % 4 = 0 ∨ c % 4 = 1 ∨ c % 4 = 2 ∨ c % 4 = 3 := by omega
  unfold markV pre pim
  rcases h4 with h | h | h | h <;> rw [h]
  · exact ⟨_, _, rfl, rep_one, rep_zero⟩
  · exact ⟨_, _, rfl, rep_zero, rep_one⟩
  · exact ⟨_, _, rfl, rep_mone, rep_zero⟩
  · exact ⟨_, _, rfl, rep_zero, rep_mone⟩
def arr4 : Array Value := #[.complex .f64 4607182418800017408 0, .complex .f64 0 4607182418800017408, .complex .f64 13830554455654793216 0, .complex .f64 0 13830554455654793216]
theorem arr4_get (k : Nat) (h : k < 4) : arr4[k]? = some (markV k) := by
  rcases (by omega : k = 0 ∨ k = 1 ∨ k = 2 ∨ k = 3) with rfl | rfl | rfl | rfl <;> rfl
theorem run_index4 (j : Nat) (w : World) (hj : j < 4) : (Instr.index 45 (.agg arr4) (.int .u8 (j : Int))).run Try.prog w = .ok (markV j) w := by
  rcases (by omega : j = 0 ∨ j = 1 ∨ j = 2 ∨ j = 3) with rfl | rfl | rfl | rfl <;> kernel_rfl

set_option maxHeartbeats 2000000 in
theorem marks_any (W : World) : Calls Try.prog 17 #[] W fun e w' => e = .returned (.agg arr4) ∧ Bd W w' := by
  have hb := Lib.hid (Bd.alloc W (.cells arr4 45))
  go_enter Try.func17, Try.ntmps17
  go_wp2
  refine bodyPost_ret (results_cell_row rfl _ _ W.heap.size 45 arr4 (0, 0) _ rfl (heap_alloc_new W _) Try.underlying45 rfl (by kernel_rfl)) rfl ?_
  exact ⟨rfl, hb.out⟩

set_option maxHeartbeats 2000000 in
theorem mark_any (c : Int) (hc : 0 ≤ c ∧ c < 256) (W : World) : Calls Try.prog 12 #[.int .u8 c] W fun e w' => e = .returned (markV (c % 4).toNat) ∧ Bd W w' := by
  obtain ⟨j, hj⟩ : ∃ j : Nat, c % 4 = (j : Int) := ⟨(c % 4).toNat, by omega⟩
  have hj4 : j < 4 := by omega
  have hix := fun w => run_index4 j w hj4
  rw [hj, Int.toNat_natCast]
  go_enter Try.func12, Try.ntmps12
  go_wp2_with fail
  refine (marks_any W).mono ?_
  rintro e w' ⟨rfl, hb⟩
  have HB := Lib.hid hb
  clear hb
  go_wp2
  exact bodyPost_ret (v := markV j) (by simp [results, Try.results12, go_sem]) rfl ⟨rfl, HB.out⟩

set_option maxHeartbeats 2000000 in
theorem conj_any (x y : Nat) (w : World) : Calls Try.prog 15 #[.complex .f64 x y] w fun e w' => e = .returned (.complex .f64 x (Op.negFloat .f64 y)) ∧ w = w' := by
  go_enter Try.func15, Try.ntmps15
  go_wp2
  go_ret
  exact ⟨rfl, rfl⟩

theorem rep_neg {y : Nat} {b : Int} (h : Rep y b) : Rep (Op.negFloat .f64 y) (-b) := by
  obtain ⟨s, m, k, h1, h2⟩ := h
  refine ⟨!s, m, k, ?_, by rw [Int.neg_mul, ← h2, signed0, signed0]; cases s <;> simp⟩
  have e1 : (y ^^^ 2 ^ 63) % 2 ^ 63 = y % 2 ^ 63 := by
    rw [Nat.xor_mod_two_pow, Nat.mod_self, Nat.xor_zero]
  have e2 : (y ^^^ 2 ^ 63) / 2 ^ 63 % 2 = 1 - y / 2 ^ 63 % 2 := by
    rw [Nat.xor_div_two_pow, Nat.div_self (by decide), show (2 : Nat) = 2 ^ 1 from rfl, Nat.xor_mod_two_pow]
    rcases Nat.mod_two_eq_zero_or_one (y / (2 ^ 1) ^ 63) with h | h <;> rw [show (2 : Nat) ^ 1 = 2 from rfl] at h ⊢ <;> rw [h] <;> rfl
  have hs : Ieee.double.signWeight = 2 ^ 63 := by decide
  have hn : Op.negFloat .f64 y = y ^^^ 2 ^ 63 := rfl
  rw [hn]
  unfold Ieee.Format.read at h1 ⊢
  simp only [hs, e1, e2] at h1 ⊢
  have hsg : (1 - y / 2 ^ 63 % 2 == 1) = !(y / 2 ^ 63 % 2 == 1) := by
    rcases Nat.mod_two_eq_zero_or_one (y / 2 ^ 63) with h | h <;> rw [h] <;> rfl
  rw [hsg]
  split at h1
  · rename_i hc
    rw [if_pos hc]
    injection h1 with h3 h4 h5
    rw [h3, h4, h5]
  · rename_i hc
    rw [if_neg hc]
    split at h1
    · rename_i hc2
      rw [if_pos hc2]
      injection h1 with h3 h4 h5
      rw [h3, h4, h5]
    · rename_i hc2
      rw [if_neg hc2]
      split at h1 <;> cases h1

/-- A mark with the other i. -/
def cjV (k : Nat) : Value := if k = 0 then .complex .f64 4607182418800017408 (Op.negFloat .f64 0) else if k = 1 then .complex .f64 0 (Op.negFloat .f64 4607182418800017408) else if k = 2 then .complex .f64 13830554455654793216 (Op.negFloat .f64 0) else .complex .f64 0 (Op.negFloat .f64 13830554455654793216)
theorem conj_mark (k : Nat) (w : World) : Calls Try.prog 15 #[markV k] w fun e w' => e = .returned (cjV k) ∧ w = w' := by
  unfold markV cjV
  split
  · exact conj_any _ _ _
  · split
    · exact conj_any _ _ _
    · split
      · exact conj_any _ _ _
      · exact conj_any _ _ _
theorem cr_cj (c : Int) : CR (cjV (c % 4).toNat) (pre c) (-pim c) := by
  have h4 : c % 4 = 0 ∨ c % 4 = 1 ∨ c % 4 = 2 ∨ c % 4 = 3 := by omega
  unfold cjV pre pim
  rcases h4 with h | h | h | h <;> rw [h]
  · exact ⟨_, _, rfl, rep_one, rep_neg rep_zero⟩
  · exact ⟨_, _, rfl, rep_zero, rep_neg rep_one⟩
  · exact ⟨_, _, rfl, rep_mone, rep_neg rep_zero⟩
  · exact ⟨_, _, rfl, rep_zero, rep_neg rep_mone⟩
theorem fb_add {x y : Nat} {a b : Int} (hx : Rep x a) (hy : Rep y b) (hn : (a + b).natAbs < 2 ^ 53) : ∃ r, floatBits .add .f64 x y = some r ∧ Rep r (a + b) := rep_add hx hy hn
theorem fb_sub {x y : Nat} {a b : Int} (hx : Rep x a) (hy : Rep y b) (hn : (a - b).natAbs < 2 ^ 53) : ∃ r, floatBits .sub .f64 x y = some r ∧ Rep r (a - b) := rep_sub hx hy hn
theorem fb_mul {x y : Nat} {a b : Int} (hx : Rep x a) (hy : Rep y b) (hn : (a * b).natAbs < 2 ^ 53) : ∃ r, floatBits .mul .f64 x y = some r ∧ Rep r (a * b) := rep_mul hx hy hn
theorem cr_add {v v' : Value} {a b c d : Int} (h : CR v a b) (h' : CR v' c d) (h1 : (a + c).natAbs < 2 ^ 53) (h2 : (b + d).natAbs < 2 ^ 53) :
    ∃ r, CR r (a + c) (b + d) ∧ ∀ (P : Program) (t : TypeId) (w : World), (binOp .add t v v').run P w = .ok r w := by
  obtain ⟨x, y, rfl, hx, hy⟩ := h
  obtain ⟨x', y', rfl, hx', hy'⟩ := h'
  obtain ⟨r, e1, hr⟩ := fb_add hx hx' h1
  obtain ⟨s, e2, hs⟩ := fb_add hy hy' h2
  refine ⟨.complex .f64 r s, ⟨r, s, rfl, hr, hs⟩, fun P t w => run_complex_sum w .add (.inl rfl) t .f64 x y x' y' r s ?_⟩
  unfold cSumBits
  rw [e1, e2]
  rfl
theorem cr_mul {v v' : Value} {a b c d : Int} (h : CR v a b) (h' : CR v' c d) (h1 : (a * c).natAbs < 2 ^ 53) (h2 : (b * d).natAbs < 2 ^ 53) (h3 : (a * d).natAbs < 2 ^ 53) (h4 : (b * c).natAbs < 2 ^ 53) (h5 : (a * c - b * d).natAbs < 2 ^ 53) (h6 : (a * d + b * c).natAbs < 2 ^ 53) :
    ∃ r, CR r (a * c - b * d) (a * d + b * c) ∧ ∀ (P : Program) (t : TypeId) (w : World), (binOp .mul t v v').run P w = .ok r w := by
  obtain ⟨x, y, rfl, hx, hy⟩ := h
  obtain ⟨x', y', rfl, hx', hy'⟩ := h'
  obtain ⟨ac, e1, hac⟩ := fb_mul hx hx' h1
  obtain ⟨bd, e2, hbd⟩ := fb_mul hy hy' h2
  obtain ⟨r, e3, hr⟩ := fb_sub hac hbd h5
  obtain ⟨ad, e4, had⟩ := fb_mul hx hy' h3
  obtain ⟨bc, e5, hbc⟩ := fb_mul hy hx' h4
  obtain ⟨s, e6, hs⟩ := fb_add had hbc h6
  refine ⟨.complex .f64 r s, ⟨r, s, rfl, hr, hs⟩, fun P t w => run_complex_mul w t x y x' y' r s ?_⟩
  unfold cMulBits
  rw [e1, Option.bind_some, e2, Option.bind_some, e3, Option.bind_some, e4, Option.bind_some, e5, Option.bind_some, e6, Option.bind_some]
theorem ord_eq {x y : Nat} {a b : Int} (hx : Rep x a) (hy : Rep y b) : (FloatKind.f64.format.order x y == some .eq) = decide (a = b) := by
  have h := rep_order hx hy
  have e : FloatKind.f64.format.order x y = some (compare a b) := h
  rw [e]
  by_cases hab : a = b
  · subst hab
    rw [decide_eq_true rfl]
    simp [compare, compareOfLessAndEq]
  · rw [decide_eq_false hab]
    have : compare a b ≠ .eq := by
      show compareOfLessAndEq a b ≠ .eq
      unfold compareOfLessAndEq
      rw [if_neg hab]
      split <;> decide
    cases hc : compare a b
    · rfl
    · exact absurd hc this
    · rfl
theorem cr_eq {v v' : Value} {a b c d : Int} (h : CR v a b) (h' : CR v' c d) (P : Program) (t : TypeId) (w : World) : (binOp .eql t v v').run P w = .ok (.bool (decide (a = c) && decide (b = d))) w := by
  obtain ⟨x, y, rfl, hx, hy⟩ := h
  obtain ⟨x', y', rfl, hx', hy'⟩ := h'
  rw [run_eql_complex, ord_eq hx hx', ord_eq hy hy']
def turnN : Nat → Int × Int → Int × Int
  | 0, p => p
  | k + 1, p => turnN k (-p.2, p.1)
theorem turnN_abs : ∀ k p, ((turnN k p).1.natAbs = p.1.natAbs ∧ (turnN k p).2.natAbs = p.2.natAbs) ∨ ((turnN k p).1.natAbs = p.2.natAbs ∧ (turnN k p).2.natAbs = p.1.natAbs)
  | 0, p => .inl ⟨rfl, rfl⟩
  | k + 1, p => by
    have h := turnN_abs k (-p.2, p.1)
    unfold turnN
    simp only [Int.natAbs_neg] at h
    omega
def SomeCR (P : Int × Int) (W : World) (e : Ending) (w' : World) : Prop := ∃ r, e = .returned r ∧ CR r P.1 P.2 ∧ W = w'

set_option maxHeartbeats 4000000 in
theorem turn_any (v : Value) (a b n : Int) (hv : CR v a b) (ha : a.natAbs < 2 ^ 53) (hb : b.natAbs < 2 ^ 53) (hn : -9223372036854775808 ≤ n ∧ n ≤ 9223372036854775807) (W : World) :
    Calls Try.prog 9 #[v, .int .i64 n] W (SomeCR (turnN (n % 4).toNat (a, b)) W) := by
  obtain ⟨k, hk⟩ : ∃ k : Nat, n % 4 = (k : Int) := ⟨(n % 4).toNat, by omega⟩
  have hk4 : k < 4 := by omega
  rw [hk, Int.toNat_natCast]
  obtain ⟨m, hm⟩ : ∃ m, IntKind.u64.wrap n = m := ⟨_, rfl⟩
  have hm0 : 0 ≤ m ∧ m < 18446744073709551616 ∧ m % 4 = (k : Int) := by
    rw [← hm]
    have : IntKind.u64.wrap n = n % 18446744073709551616 := by
      unfold IntKind.wrap
      simp [IntKind.signed, IntKind.bits]
    rw [this]
    omega
  obtain ⟨hm1, hm2, hm3⟩ := hm0
  obtain ⟨x, y, rfl, hx, hy⟩ := hv
  clear hk
  go_enter Try.func9, Try.ntmps9
  go_wp2
  rw [hm3]
  clear hm hm1 hm2 hm3
  go_loopg [0, 8] 4 (fun g v0 v8 wr => ∃ (i p q : Nat) (c d : Int), v0 = .complex .f64 p q ∧ v8 = .int .u64 (i : Int) ∧ Hid (Rep p c ∧ Rep q d ∧ c.natAbs < 2 ^ 53 ∧ d.natAbs < 2 ^ 53 ∧ turnN (k - i) (c, d) = turnN k (a, b)) ∧ i ≤ k ∧ k - i ≤ g ∧ W = wr)
  case atStart => exact ⟨0, x, y, a, b, rfl, rfl, Lib.hid ⟨hx, hy, ha, hb, rfl⟩, by omega, by omega, rfl⟩
  case round =>
    obtain ⟨i, p, q, c, d, rfl, rfl, H, hi, hg, rfl⟩ := hrel
    by_cases hlt : i < k
    · have hl2 : (i : Int) < (k : Int) := by omega
      obtain ⟨r, e1, hr⟩ := fb_sub rep_zero H.out.2.1 (by have := H.out.2.2.2.1; omega)
      have hs := fun (t : TypeId) (w : World) => run_float_arith (P := Try.prog) w .sub t .f64 0 q r e1
      have HR := Lib.hid hr
      clear hr e1
      go_wp2
      go_roundg (k - (i + 1))
      case measure => omega
      case rel =>
        obtain ⟨h1, h2, h3, h4, h5⟩ := H.out
        refine ⟨i + 1, r, p, 0 - d, c, rfl, by go_num, Lib.hid ⟨HR.out, h1, by omega, h3, ?_⟩, by omega, by omega, rfl⟩
        rw [← h5, show k - i = (k - (i + 1)) + 1 by omega]
        show _ = turnN (k - (i + 1)) (-d, c)
        rw [Int.zero_sub]
    · obtain rfl : i = k := by omega
      have hl2 : ¬ (i : Int) < (i : Int) := by omega
      obtain ⟨h1, h2, h3, h4, h5⟩ := H.out
      rw [Nat.sub_self] at h5
      have H5 := Lib.hid h5
      clear h5 H
      go_wp2
      go_ret
      exact ⟨_, rfl, by rw [← H5.out]; exact ⟨p, q, rfl, h1, h2⟩, rfl⟩

/-- Sums of marks. -/
def sre (l : List Int) : Int := (l.map pre).sum
def sim (l : List Int) : Int := (l.map pim).sum
theorem pre_abs (c : Int) : (pre c).natAbs ≤ 1 := by unfold pre; split <;> (try split) <;> decide
theorem pim_abs (c : Int) : (pim c).natAbs ≤ 1 := by unfold pim; split <;> (try split) <;> decide
theorem sum_push (f : Int → Int) (l : List Int) (i : Nat) (h : i < l.length) : ((l.take (i + 1)).map f).sum = ((l.take i).map f).sum + f (l.getD i 0) := by
  rw [List.take_add_one, List.getElem?_eq_getElem h, List.map_append, List.sum_append, List.getD_eq_getElem?_getD, List.getElem?_eq_getElem h]
  simp
theorem sum_abs (f : Int → Int) (hf : ∀ c, (f c).natAbs ≤ 1) : ∀ l : List Int, ((l.map f).sum).natAbs ≤ l.length
  | [] => by simp
  | x :: l => by
    have h := sum_abs f hf l
    have h2 := hf x
    rw [List.map_cons, List.sum_cons, List.length_cons]
    omega
def SomeCRb (a b : Int) (W : World) (e : Ending) (w' : World) : Prop := ∃ r, e = .returned r ∧ CR r a b ∧ Bd W w'

set_option maxHeartbeats 4000000 in
theorem sum_any (A : Option Addr) (c : Nat) (l : List Int) (W : World) (hn : l.length ≤ 9000000000000) (hA : ∀ k, k < l.length → ∃ ad, A = some ad ∧ W.cell? (ad.add k) = some (.int .u8 (l.getD k 0))) (hb8 : ∀ k, k < l.length → 0 ≤ l.getD k 0 ∧ l.getD k 0 < 256) :
    Calls Try.prog 8 #[.slice A l.length c] W (SomeCRb (sre l) (sim l) W) := by
  go_enter Try.func8, Try.ntmps8
  go_wp2
  go_loopg [3, 8] l.length (fun g v3 v8 wr => ∃ i : Nat, v8 = .int .i64 (i : Int) ∧ Hid (CR v3 (sre (l.take i)) (sim (l.take i))) ∧ i ≤ l.length ∧ l.length - i ≤ g ∧ Hid (Bd W wr))
  case atStart => exact ⟨0, rfl, Lib.hid ⟨0, 0, rfl, rep_zero, rep_zero⟩, by omega, by omega, Lib.hid (Bd.refl W)⟩
  case round =>
    obtain ⟨i, rfl, H, hi, hg, HB⟩ := hrel
    by_cases hlt : i < l.length
    · have hl2 : (i : Int) < (l.length : Int) := by omega
      obtain ⟨ad, rfl, hca⟩ := hA i hlt
      have hb := hb8 i hlt
      have e0 := HB.out.cell hca
      obtain ⟨z, hz⟩ : ∃ z, z = l.getD i 0 := ⟨_, rfl⟩
      rw [← hz] at e0 hb
      have HZ := Lib.hid hz
      clear hz hca
      have hlen : (l.take i).length ≤ l.length := by rw [List.length_take]; omega
      obtain ⟨r, hr, hadd⟩ := cr_add H.out (cr_mark z) (by have := sum_abs pre pre_abs (l.take i); have := pre_abs z; unfold sre; omega) (by have := sum_abs pim pim_abs (l.take i); have := pim_abs z; unfold sim; omega)
      have HR := Lib.hid hr
      have hadd := hadd Try.prog
      clear hr
      go_wp2_with fail
      refine (mark_any z hb wr).mono ?_
      rintro e w' ⟨rfl, hbd⟩
      have HB2 := Lib.hid (HB.out.trans hbd)
      clear hbd e0
      go_wp2
      go_roundg (l.length - (i + 1))
      case measure => omega
      case rel =>
        refine ⟨i + 1, by go_num, Lib.hid ?_, by omega, by omega, HB2⟩
        unfold sre sim
        rw [sum_push pre l i hlt, sum_push pim l i hlt, ← HZ.out]
        exact HR.out
    · obtain rfl : i = l.length := by omega
      have hl2 : ¬ (l.length : Int) < (l.length : Int) := by omega
      have h := H.out
      rw [List.take_length] at h
      have H2 := Lib.hid h
      clear h H
      go_wp2
      go_ret
      exact ⟨_, rfl, H2.out, HB.out⟩
end Go.Proofs.Ytihnlebpbmhpgaa.Phase
