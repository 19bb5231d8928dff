/- Part 11 of what this claim leans on: MO, MK, TN, TN2, TP, TP2, TS, TS2, TS3, TS4, MF, TF, TF2, TF3, TF4, TF5, TV, TV2, TV3a, TV3b, TV3c, TV4, MT, TT, TT2, TT3. -/
import Derived.Test.YtdoooffmaokaeaaGreatDoorZ7
import Derived.Test.YtdoooffmaokaeaaGreatDoorZ10
import Derived.Lib.ItoaNum
/- The number of a word among those with as many ones, from its highest one down; in plain Lean. Of no function of the program. -/
section
set_option linter.unusedVariables false
set_option linter.unusedSimpArgs false
set_option linter.unusedSectionVars false
namespace Go.Proofs.MO
open Go Go.Proofs.MV Go.Proofs.MP Go.Proofs.MB
set_option linter.unusedVariables false
theorem bitLen_top (i r : Nat) (hi : i < 64) (hr : r < 2 ^ i) : Lib.bitLen (2 ^ i + r) = i + 1 := by
  have h64 : 2 ^ i + r < 2 ^ 64 := Nat.lt_of_lt_of_le (show 2 ^ i + r < 2 ^ (i + 1) by rw [Nat.pow_succ]; omega) (Nat.pow_le_pow_right (by decide) (by omega))
  obtain ⟨h1, h2, h3⟩ := Lib.bitLenAux_bounds 64 (2 ^ i + r) h64 (by have := Nat.two_pow_pos i; omega)
  have hd : Lib.bitLen (2 ^ i + r) = Lib.bitLenAux 64 (2 ^ i + r) := rfl
  rw [hd]
  generalize Lib.bitLenAux 64 (2 ^ i + r) = b at *
  have a : ¬ b ≤ i := fun h => by
    have := Nat.pow_le_pow_right (show 0 < 2 by decide) h
    omega
  have c : ¬ i + 2 ≤ b := fun h => by
    have := Nat.pow_le_pow_right (show 0 < 2 by decide) (show i + 1 ≤ b - 1 by omega)
    rw [Nat.pow_succ] at this
    omega
  omega
theorem mod_top (x n : Nat) : x % 2 ^ (n + 1) = 2 ^ n * (x.testBit n).toNat + x % 2 ^ n := by
  rw [Nat.testBit_eq_decide_div_mod_eq, Nat.pow_succ, Nat.mod_mul]
  have := Nat.mod_lt (x / 2 ^ n) (show 0 < 2 by decide)
  by_cases h : x / 2 ^ n % 2 = 1
  · simp [h]; omega
  · have : x / 2 ^ n % 2 = 0 := by omega
    simp [this]
/-- The highest one of the lowest m bits. -/
theorem top (x : Nat) : ∀ m, 0 < x % 2 ^ m → ∃ i, i < m ∧ x % 2 ^ m = 2 ^ i + x % 2 ^ i ∧ pop m x = pop i x + 1 ∧ enc x m = ch i (pop i x + 1) + enc x i
  | 0, h => by simp [Nat.mod_one] at h
  | m + 1, h => by
    have e := mod_top x m
    have hp := pop_succ m x
    cases hb : x.testBit m
    · rw [hb] at e hp
      simp at e hp
      obtain ⟨i, h1, h2, h3, h4⟩ := top x m (by omega)
      exact ⟨i, by omega, by omega, by omega, by rw [enc, hb]; simpa using h4⟩
    · rw [hb] at e hp
      simp at e hp
      exact ⟨m, by omega, e, by omega, by rw [enc, hb, hp]; simp⟩
theorem none_left (x : Nat) : ∀ m, x % 2 ^ m = 0 → enc x m = 0
  | 0, _ => rfl
  | m + 1, h => by
    have e := mod_top x m
    cases hb : x.testBit m
    · rw [hb] at e
      simp at e
      rw [enc, hb, none_left x m (by omega)]; simp
    · rw [hb] at e
      simp at e
      have := Nat.two_pow_pos m
      omega
theorem andNot_top (i r : Nat) (hi : i < 64) (hr : r < 2 ^ i) : bits .andNot .u64 ((2 ^ i + r : Nat) : Int) ((2 ^ i : Nat) : Int) = (r : Nat) := by
  have h64 : 2 ^ i + r < 2 ^ 64 := Nat.lt_of_lt_of_le (show 2 ^ i + r < 2 ^ (i + 1) by rw [Nat.pow_succ]; omega) (Nat.pow_le_pow_right (by decide) (by omega))
  have e : BitVec.ofInt 64 ((2 ^ i + r : Nat) : Int) &&& ~~~ BitVec.ofInt 64 ((2 ^ i : Nat) : Int) = BitVec.ofNat 64 r := by
    apply BitVec.eq_of_getLsbD_eq
    intro j hj
    rw [BitVec.getLsbD_and, BitVec.getLsbD_not, BitVec.ofInt_natCast, BitVec.ofInt_natCast, BitVec.getLsbD_ofNat, BitVec.getLsbD_ofNat, BitVec.getLsbD_ofNat, Nat.testBit_two_pow]
    simp only [hj, decide_true, Bool.true_and]
    by_cases h : i = j
    · subst h
      simp [Nat.testBit_lt_two_pow hr]
    · have : (2 ^ i + r).testBit j = r.testBit j := by
        rcases Nat.lt_or_gt_of_ne h with g | g
        · rw [Nat.testBit_lt_two_pow (Nat.lt_of_lt_of_le (show 2 ^ i + r < 2 ^ (i + 1) by rw [Nat.pow_succ]; omega) (Nat.pow_le_pow_right (by decide) (by omega))), Nat.testBit_lt_two_pow (Nat.lt_of_lt_of_le hr (Nat.pow_le_pow_right (by decide) (by omega)))]
        · exact Nat.testBit_two_pow_add_gt g r
      rw [this]
      simp [h]
  show IntKind.u64.wrap ((BitVec.ofInt 64 ((2 ^ i + r : Nat) : Int) &&& ~~~ BitVec.ofInt 64 ((2 ^ i : Nat) : Int)).toNat : Int) = (r : Nat)
  rw [e, BitVec.toNat_ofNat, Nat.mod_eq_of_lt (by omega)]
  have : IntKind.u64.wrap (r : Int) = (r : Int) % 18446744073709551616 := by simp [IntKind.wrap, IntKind.bits, IntKind.signed]
  rw [this]
  omega
end Go.Proofs.MO
end
/- Rows of bits in blocks of fifteen, each by its class and its offset; in plain Lean. Of no function of the program. -/
section
set_option linter.unusedVariables false
set_option linter.unusedSimpArgs false
set_option linter.unusedSectionVars false
namespace Go.Proofs.MK
open Go Go.Proofs.MV Go.Proofs.MP Go.Proofs.MB Go.Proofs.MR
set_option linter.unusedVariables false
/-- The bits that offsets of a class need. -/
def wdt (n k : Nat) : Nat := if ch n k = 0 then 0 else Lib.bitLen (ch n k - 1)
theorem lt_wdt {n k x : Nat} (hn : n < 63) (h : x < ch n k) : x < 2 ^ wdt n k := by
  unfold wdt
  rw [if_neg (by omega)]
  by_cases h1 : ch n k - 1 = 0
  · have : x = 0 := by omega
    subst this; exact Nat.two_pow_pos _
  · have hc := ch_le n k
    have h64 : ch n k - 1 < 2 ^ 64 := by
      have := Nat.pow_lt_pow_right (show 1 < 2 by decide) (show n < 64 by omega)
      omega
    obtain ⟨_, h2, _⟩ := Lib.bitLenAux_bounds 64 (ch n k - 1) h64 (by omega)
    have : Lib.bitLen (ch n k - 1) = Lib.bitLenAux 64 (ch n k - 1) := rfl
    rw [this]; omega
theorem wdt_le {n k : Nat} : wdt n k ≤ n := by
  unfold wdt
  split
  · exact Nat.zero_le _
  · rename_i h
    have hc := ch_le n k
    exact MI.bitLen_le 64 _ n (by omega)
/-- A block of a row. -/
def bk (l : List Bool) (i : Nat) : Nat := piece l (15 * i) 15
theorem bk_lt (l : List Bool) (i : Nat) : bk l i < 2 ^ 15 := wd_lt _ _
def cl (l : List Bool) (i : Nat) : Nat := pop 15 (bk l i)
theorem cl_le (l : List Bool) (i : Nat) : cl l i ≤ 15 := pop_le _ _
def of (l : List Bool) (i : Nat) : Nat := enc (bk l i) 15
theorem of_lt (l : List Bool) (i : Nat) : of l i < 2 ^ wdt 15 (cl l i) := lt_wdt (by decide) (enc_lt _ _)
theorem of_ch (l : List Bool) (i : Nat) : of l i < ch 15 (cl l i) := enc_lt _ _
theorem dec_of (l : List Bool) (i : Nat) : dec 15 (cl l i) (of l i) = bk l i := by
  unfold cl of; rw [dec_enc, Nat.mod_eq_of_lt (bk_lt l i)]
theorem piece_min (l : List Bool) (p n : Nat) (h : p ≤ l.length) : piece l p (min n (l.length - p)) = piece l p n := by
  unfold piece
  apply Nat.eq_of_testBit_eq
  intro j
  rw [wd_bit, wd_bit]
  by_cases h1 : p + j < l.length
  · have : (j < min n (l.length - p)) ↔ j < n := by omega
    simp [this]
  · rw [bt_out l (p + j) (by omega)]; simp
def nb (l : List Bool) : Nat := (l.length + 14) / 15
def classes (l : List Bool) : List Nat := (List.range (nb l)).map (cl l)
/-- The offsets of the first i blocks. -/
def offs (l : List Bool) : Nat → List Bool
  | 0 => []
  | i + 1 => offs l i ++ bitsOf (of l i) (wdt 15 (cl l i))
def pts (l : List Bool) (i : Nat) : Nat := (offs l i).length
theorem pts_succ (l : List Bool) (i : Nat) : pts l (i + 1) = pts l i + wdt 15 (cl l i) := by
  show (offs l i ++ bitsOf (of l i) (wdt 15 (cl l i))).length = _
  rw [List.length_append, bitsOf_length]; rfl
theorem pts_le (l : List Bool) : ∀ i, pts l i ≤ 15 * i
  | 0 => Nat.le_refl _
  | i + 1 => by rw [pts_succ]; have := pts_le l i; have := wdt_le (n := 15) (k := cl l i); omega
theorem pts_mono (l : List Bool) {i j : Nat} (h : i ≤ j) : pts l i ≤ pts l j := by
  induction h with
  | refl => exact Nat.le_refl _
  | step h ih => rw [pts_succ]; omega
theorem offs_bt (l : List Bool) {i n : Nat} (h : i < n) {j : Nat} (hj : j < wdt 15 (cl l i)) : bt (offs l n) (pts l i + j) = (of l i).testBit j := by
  induction n with
  | zero => omega
  | succ n ih =>
    show bt (offs l n ++ bitsOf (of l n) (wdt 15 (cl l n))) _ = _
    rw [bt_append]
    by_cases e : i = n
    · subst e
      have : ¬ pts l i + j < (offs l i).length := by show ¬ pts l i + j < pts l i; omega
      rw [if_neg this, show pts l i + j - (offs l i).length = j from Nat.add_sub_cancel_left _ _, bt_bitsOf, decide_eq_true hj, Bool.true_and]
    · have h2 := pts_mono l (show i + 1 ≤ n by omega)
      rw [pts_succ] at h2
      rw [if_pos (show pts l i + j < (offs l n).length from show pts l i + j < pts l n by omega)]
      exact ih (by omega)
theorem offs_piece (l : List Bool) {i n : Nat} (h : i < n) : piece (offs l n) (pts l i) (wdt 15 (cl l i)) = of l i := by
  unfold piece
  rw [wd_ext (g := (of l i).testBit) (fun j hj => offs_bt l h hj)]
  exact wd_self (of_lt l i)
theorem bk_bit (l : List Bool) (i j : Nat) : (bk l i).testBit j = (decide (j < 15) && bt l (15 * i + j)) := wd_bit _ _ _
theorem cnt_bk (l : List Bool) (i : Nat) : ∀ r, r ≤ 15 → cnt l (15 * i + r) = cnt l (15 * i) + pop r (bk l i)
  | 0, _ => rfl
  | r + 1, h => by
    have ih := cnt_bk l i r (by omega)
    rw [pop_succ, bk_bit, decide_eq_true (show r < 15 by omega), Bool.true_and, ← Nat.add_assoc, cnt, ih]
    cases bt l (15 * i + r) <;> simp <;> omega
theorem cnt_next (l : List Bool) (i : Nat) : cnt l (15 * (i + 1)) = cnt l (15 * i) + cl l i := by
  rw [show 15 * (i + 1) = 15 * i + 15 by omega]; exact cnt_bk l i 15 (Nat.le_refl _)
theorem take_bk (l : List Bool) (i : Nat) (h : 15 * i ≤ l.length) : l.take (15 * i) ++ bitsOf (bk l i) (min 15 (l.length - 15 * i)) = l.take (15 * (i + 1)) := by
  apply bt_ext
  · simp [bitsOf_length]; omega
  · intro j hj
    simp [bitsOf_length] at hj
    rw [bt_append, List.length_take, Nat.min_eq_left h]
    have ht : ∀ n, bt (l.take n) j = (decide (j < n) && bt l j) := fun n => by
      unfold bt
      simp only [List.getD_eq_getElem?_getD, List.getElem?_take]
      split <;> simp [*]
    split
    · rename_i h1
      rw [ht, ht]; simp [h1, show j < 15 * (i + 1) by omega]
    · rename_i h1
      rw [bt_bitsOf, bk_bit, ht, show 15 * i + (j - 15 * i) = j by omega]
      simp [show j < 15 * (i + 1) by omega, show j - 15 * i < min 15 (l.length - 15 * i) by omega, show j - 15 * i < 15 by omega]
theorem bk_small (l : List Bool) (i : Nat) (h : 15 * i ≤ l.length) : bk l i < 2 ^ min 15 (l.length - 15 * i) := by
  unfold bk; rw [← piece_min l (15 * i) 15 h]; exact wd_lt _ _
/-- How many groups. -/
def ng (l : List Bool) : Nat := (max (nb l) 1 + 7) / 8
def onesR (l : List Bool) : List Nat := (List.range (ng l)).map fun g => cnt l (15 * (8 * g))
def pointsR (l : List Bool) : List Nat := (List.range (ng l)).map fun g => pts l (8 * g)
theorem range_snoc {f : Nat → Nat} (n : Nat) : (List.range n).map f ++ [f n] = (List.range (n + 1)).map f := by rw [List.range_succ, List.map_append]; rfl
end Go.Proofs.MK
end
/- The program: binomials. -/
section
set_option linter.unusedVariables false
set_option linter.unusedSimpArgs false
set_option linter.unusedSectionVars false
namespace Go.Proofs.E
open Go Go.Proofs.MV
set_option linter.unusedVariables false
set_option maxRecDepth 10000
variable {L : Nat → (Nat → Option Obj) → Prop}
theorem row_zero : (1 :: List.replicate 62 0) = MB.rowL 0 := by decide
theorem b_next {A : Amb} (i : Nat) (hi : i < 62) {H : Heap} {b g : Nat} {K : V → Heap → Prop} (hat : H[b]? = some ⟨210, g, nums .u64 (MB.rowL i), true⟩) (hK : K (.tup []) (H.set b ⟨210, g, nums .u64 (MB.rowL (i + 1)), true⟩)) :
    Does Tryz.prog A 182 [.p b g 0, .i .i64 i] H K := by
  refine does_of_W Tryz.func182 rfl rfl (by kernel_rfl) [] ?_
  have hs := fun k' => getSet (k' := k') hat
  have hb : b < H.length := (List.getElem?_eq_some_iff.1 hat).1
  unfold Tryz.f182
  refine gox ?_
  refine loop_ (fun k : Nat => ⟨[(0, .p b g 0), (4, .i .i64 k)], H.set b ⟨210, g, nums .u64 (MB.tri i k), true⟩⟩) (fun k => k ≤ i + 1) (fun k => k) (i + 1) (Nat.le_refl _) (le_slots' (by simp) (by rw [MB.tri_start, setSelf hat]) (go ?_)) fun k hk => go ?_
  · trivial
  refine ⟨fun h1 => go ?_, fun h1 => go ?_⟩
  · obtain ⟨j, rfl⟩ : ∃ j, k = j + 1 := ⟨k - 1, by omega⟩
    have hl := MB.tri_length i (j + 1)
    have e1 := MB.tri_getD i (j + 1) (j + 1) (by omega)
    have e2 := MB.tri_getD i (j + 1) j (by omega)
    rw [if_neg (by omega)] at e1 e2
    have b1 := MB.ch_le i (j + 1)
    have b2 := MB.ch_le i j
    have b3 := Nat.pow_le_pow_right (show 0 < 2 by decide) (show i ≤ 62 by omega)
    have b4 : (2 : Nat) ^ 62 = 4611686018427387904 := by decide
    rw [b4] at b3
    refine regD 14 (by kernel_rfl) (by kernel_rfl) (gox ?_)
    refine ⟨j, by omega, by omega, le_slots' (by simp) (by rw [MB.tri_step i j (by omega)]) (go trivial)⟩
  · obtain rfl : k = 0 := by omega
    rw [MB.tri_end]
    exact hK
def triV (j : Nat) : V := .sl false (j + 3) (nums .u64 ((MB.rowL (j + 2)).take (j + 3)))
def trisT (i : Nat) : List V := (List.range i).map triV
theorem frn_tris (P : Program) (H : Heap) (n0 n i : Nat) : (trisT i).map (frn P H n0 (n + 2)) = trisT i := by simp [trisT, triV, frn, frn_nums]
theorem frz_tris (P : Program) (H : Heap) (n i : Nat) : (trisT i).map (frz P H (n + 1)) = trisT i := by simp [trisT, triV, frz]
theorem trisT_length (i : Nat) : (trisT i).length = i := by simp [trisT]
theorem trisT_succ (i : Nat) : trisT (i + 1) = trisT i ++ [triV i] := by unfold trisT; rw [List.range_succ, List.map_append]; rfl
def trisV : Nat → V
  | 0 => .sl true 1 [.sl true 1 [.i .u64 1]]
  | n + 1 => .sl false (n + 2) (.sl true 1 [.i .u64 1] :: .sl false 2 (nums .u64 ((MB.rowL 1).take 2)) :: trisT n)
theorem all_tris (n i : Nat) : (∀ v ∈ trisT i, Below n v) ↔ True := all_map n _ _ fun _ => by unfold triV; exact closed
theorem tris_below (k : Nat) : ∀ n, Below k (trisV n)
  | 0 => by unfold trisV; exact closed
  | n + 1 => .sl fun v hv => by
    rcases List.mem_cons.1 hv with h | h
    · subst h; exact closed
    · rcases List.mem_cons.1 h with h | h
      · subst h; exact closed
      · exact (all_tris _ _).2 trivial v h
def rowsS (n : Nat) : Nat → St
  | 0 => ⟨[(0, .i .i64 n), (3, .p 0 0 0), (4, .sl true 1 [.sl true 1 [.i .u64 1]]), (9, .i .i64 n), (10, .i .i64 0)], [⟨210, 0, nums .u64 (MB.rowL 0), true⟩]⟩
  | i + 1 => ⟨[(0, .i .i64 n), (3, .p 0 0 0), (4, .o 2 i 0 (i + 2)), (9, .i .i64 n), (10, .i .i64 (i + 1 : Nat))], [⟨210, 0, nums .u64 (MB.rowL (i + 1)), true⟩, ⟨95, 0, nums .u64 ((MB.rowL 1).take 2), true⟩, ⟨31, i, .sl true 1 [.i .u64 1] :: .o 1 0 0 2 :: trisT i, true⟩]⟩
theorem b_rows (n : Nat) (hn : n ≤ 62) : Pure Tryz.prog L 181 [.i .i64 n] (trisV n) := by
  refine pure_of_W Tryz.func181 rfl rfl (by kernel_rfl) [] closed (tris_below 0 n) fun A hL => ?_
  have hrl := MB.rowL_length
  unfold Tryz.f181
  refine go ?_
  refine loop_ (rowsS n) (fun i => i ≤ n) (fun i => n - i) 0 (Nat.zero_le _) (le_slots' (Nat.zero_le _) rfl (go ?_)) fun i hi => ?_
  · trivial
  cases i with
  | zero =>
    unfold rowsS
    refine go ?_
    refine ⟨fun h1 => go ?_, fun h1 => go ?_⟩
    · refine b_next 0 (by omega) rfl (gox ?_)
      exact ⟨1, by omega, by omega, le_gc 3 (Nat.zero_le _) (by simp) (by rfl) (go trivial)⟩
    · obtain rfl : n = 0 := by omega
      exact ⟨6, rfl⟩
  | succ i =>
    have htl := trisT_length i
    unfold rowsS
    refine go ?_
    refine ⟨fun h1 => go ?_, fun h1 => go ?_⟩
    · refine b_next (i + 1) (by omega) rfl (gox ?_)
      refine ⟨i + 2, by omega, by omega, le_gc 3 (Nat.zero_le _) (by simp) (go ?_) (go trivial)⟩
      simp [trisT_succ, frn_tris, frn, Heap.at, T, triV, frn_nums]
      exact (List.take_of_length_le (by simp [nums]; omega)).symm
    · obtain rfl : i + 1 = n := by omega
      refine ⟨6, ?_⟩
      simp [frz, Heap.at, T, frz_tris, frz_nums, trisV, htl]
      exact ⟨List.take_of_length_le (by simp [nums]; omega), List.take_of_length_le (by omega)⟩
theorem b_choose (n k : Nat) (hn : n ≤ 62) (hk : k ≤ n) : Pure Tryz.prog L 145 [.i .i64 n, .i .i64 k] (.i .u64 (MB.ch n k : Nat)) := by
  refine pure_of_W Tryz.func145 rfl rfl (by kernel_rfl) [] closed closed fun A hL => ?_
  have hrl := MB.rowL_length
  unfold Tryz.f145
  refine go ?_
  refine loop_ (fun i : Nat => ⟨[(0, .i .i64 n), (1, .i .i64 k), (5, .p 0 0 0), (23, .i .i64 n), (24, .i .i64 i)], [⟨210, 0, nums .u64 (MB.rowL i), true⟩]⟩) (fun i => i ≤ n) (fun i => n - i) 0 (Nat.zero_le _) (le_slots' (Nat.zero_le _) rfl (go ?_)) fun i hi => go ?_
  · trivial
  refine ⟨fun h1 => go ?_, fun h1 => go ?_⟩
  · refine b_next i (by omega) rfl (go ?_)
    exact ⟨i + 1, by omega, by omega, le_slots (Nat.zero_le _) (go trivial)⟩
  · obtain rfl : i = n := by omega
    have e1 := MB.rowL_getD i k (by omega)
    have e2 := hrl i
    refine gox ?_
    exact fin_
theorem ch_64 (n k : Nat) (hn : n ≤ 62) : MB.ch n k ≤ 4611686018427387904 := Nat.le_trans (MB.ch_le n k) (Nat.le_trans (Nat.pow_le_pow_right (by decide) hn) (by decide))
theorem b_bwidth (n k : Nat) (hn : n ≤ 62) (hk : k ≤ n) : Pure Tryz.prog L 93 [.i .i64 n, .i .i64 k] (.i .i64 (MK.wdt n k : Nat)) := by
  refine pure_of_W Tryz.func93 rfl rfl (by kernel_rfl) [] closed closed fun A hL => ?_
  have h64 := ch_64 n k hn
  have hp := MB.ch_pos n k hk
  unfold Tryz.f93
  refine go ?_
  refine (b_choose n k hn hk).does hL (go ?_)
  refine (b_len (MB.ch n k - 1) (by omega)).does hL (go ?_)
  unfold MK.wdt
  rw [if_neg (by omega)]
  exact fin_
end Go.Proofs.E
end
/- The program: offsets of words, and words of offsets. -/
section
set_option linter.unusedVariables false
set_option linter.unusedSimpArgs false
set_option linter.unusedSectionVars false
namespace Go.Proofs.E
open Go Go.Proofs.MV
set_option linter.unusedVariables false
set_option maxRecDepth 10000
variable {L : Nat → (Nat → Option Obj) → Prop}
theorem tris_form : ∀ n, ∃ f cs, trisV n = .sl f (n + 1) cs ∧ cs.length = n + 1 ∧ ∀ i, i ≤ n → ∃ f', gV cs i = .sl f' (i + 1) (nums .u64 ((MB.rowL i).take (i + 1)))
  | 0 => ⟨_, _, rfl, rfl, fun i hi => by obtain rfl : i = 0 := by omega
                                         exact ⟨true, rfl⟩⟩
  | n + 1 => ⟨_, _, rfl, by simp [trisT_length], fun i hi => by
    match i, hi with
    | 0, _ => exact ⟨true, rfl⟩
    | 1, _ => exact ⟨false, rfl⟩
    | i + 2, hi =>
      refine ⟨false, ?_⟩
      show (trisT n).getD i .any = _
      unfold trisT
      rw [List.getD_eq_getElem?_getD, List.getElem?_map, List.getElem?_range (by omega)]; rfl⟩
theorem row_take {i k : Nat} (h : k ≤ i) (hi : i ≤ 62) : ((MB.rowL i).take (i + 1)).getD k 0 = MB.ch i k := by
  rw [take_getD (by omega), MB.rowL_getD i k (by omega)]
theorem row_len (i : Nat) (hi : i ≤ 62) : ((MB.rowL i).take (i + 1)).length = i + 1 := by rw [List.length_take, MB.rowL_length]; omega
theorem enc_mono (x : Nat) {m n : Nat} (h : m ≤ n) : MB.enc x m ≤ MB.enc x n := by
  induction h with
  | refl => exact Nat.le_refl _
  | step h ih => exact Nat.le_trans ih (by rw [MB.enc]; omega)
theorem b_offset (x n : Nat) (hx : x < 2 ^ 64) (hn : n ≤ 62) : Pure Tryz.prog L 142 [.i .u64 x, .i .i64 n] (.tup [.i .i64 (MP.pop n x : Nat), .i .u64 (MB.enc x n : Nat)]) := by
  refine pure_of_W Tryz.func142 rfl rfl (by kernel_rfl) [] closed closed fun A hL => ?_
  have hm : 2 ^ n - 1 < 2 ^ 64 := Nat.lt_of_lt_of_le (Nat.sub_lt (Nat.two_pow_pos n) (by decide)) (Nat.pow_le_pow_right (by decide) (by omega))
  have ha : (x &&& (2 ^ n - 1)) = x % 2 ^ n := Nat.and_two_pow_sub_one_eq_mod x n
  have hlt : ∀ m, m ≤ n → x % 2 ^ m < 2 ^ 62 := fun m h => Nat.lt_of_lt_of_le (Nat.mod_lt _ (Nat.two_pow_pos m)) (Nat.pow_le_pow_right (by decide) (by omega))
  have hmn := hlt n (Nat.le_refl _)
  have hen : MB.enc x n < 4611686018427387904 := Nat.lt_of_lt_of_le (MB.enc_lt x n) (ch_64 n _ hn)
  have hpn := MB.pop_le x n
  obtain ⟨f, cs, htv, hcl, hci⟩ := tris_form n
  have hrows := b_rows (L := L) n hn
  rw [htv] at hrows
  unfold Tryz.f142
  refine go ?_
  refine (b_mask n (by omega)).does hL (gox ?_)
  refine (b_pop (x % 2 ^ n) (by omega)).does hL (go ?_)
  rw [pop_low n x (by omega)]
  refine hrows.does hL (go ?_)
  refine loop_ (fun m : Nat => ⟨[(0, .i .u64 (x % 2 ^ m : Nat)), (6, .i .i64 (MP.pop n x : Nat)), (7, .sl f (n + 1) cs), (8, .i .u64 (MB.enc x n - MB.enc x m : Nat)), (9, .i .i64 (MP.pop m x : Nat))], []⟩) (fun m => m ≤ n) (fun m => m) n (Nat.le_refl _) (le_slots (Nat.zero_le _) (go ?_)) fun m hi => ?_
  · simp
  have hmm := hlt m hi
  have hem := enc_mono x hi
  refine go ?_
  refine ⟨fun h1 => go ?_, fun h1 => go ?_⟩
  · obtain ⟨i, h2, h3, h4, h5⟩ := MO.top x m h1
    have h6 := MO.bitLen_top i (x % 2 ^ i) (by omega) (Nat.mod_lt _ (Nat.two_pow_pos i))
    have hp64 := pow64 (show i < 64 by omega)
    have han := MO.andNot_top i (x % 2 ^ i) (by omega) (Nat.mod_lt _ (Nat.two_pow_pos i))
    have hpi := MB.pop_le x i
    have hei := enc_mono x (show i ≤ n by omega)
    rw [h3] at hmm ⊢
    refine (b_len (2 ^ i + x % 2 ^ i) (by omega)).does hL (gox ?_)
    refine ⟨fun h7 => gox ?_, fun h7 => gox ?_⟩
    · obtain ⟨f', hgi⟩ := hci i (by omega)
      have hrt := row_take (i := i) (k := MP.pop i x + 1) (by omega) (by omega)
      have hrl := row_len i (by omega)
      refine gox ?_
      refine ⟨i, by omega, by omega, le_slots (Nat.zero_le _) (go ?_)⟩
      omega
    · have hz := MB.ch_out i (MP.pop i x + 1) (by omega)
      refine ⟨i, by omega, by omega, le_slots (Nat.zero_le _) (go ?_)⟩
      omega
  · rw [MO.none_left x m (by omega), Nat.sub_zero]
    exact fin_
theorem or_high {y i : Nat} (hy : y % 2 ^ (i + 1) = 0) : (y ||| 2 ^ i) = y + 2 ^ i := by
  obtain ⟨q, rfl⟩ : ∃ q, y = 2 ^ (i + 1) * q := ⟨y / 2 ^ (i + 1), by have := Nat.div_add_mod y (2 ^ (i + 1)); omega⟩
  rw [← Nat.two_pow_add_eq_or_of_lt (by rw [Nat.pow_succ]; have := Nat.two_pow_pos i; omega)]
theorem mod_down {y i : Nat} (hy : y % 2 ^ (i + 1) = 0) : y % 2 ^ i = 0 := by
  rw [Nat.pow_succ] at hy
  have := Nat.mod_mul_right_mod y (2 ^ i) 2
  rw [hy] at this
  simpa using this.symm
/-- What is left of a word to be read. -/
def Dec (n K O : Nat) (x : Nat × Nat × Nat × Nat) : Prop := x.1 ≤ n ∧ x.2.2.2 % 2 ^ x.1 = 0 ∧ x.2.2.2 + 2 ^ x.1 ≤ 2 ^ n ∧ x.2.2.1 < MB.ch x.1 x.2.1 ∧ x.2.2.2 + MB.dec x.1 x.2.1 x.2.2.1 = MB.dec n K O
theorem dec_yes {n K O i j o y : Nat} (h : Dec n K O (i + 1, j + 1, o, y)) (hc : MB.ch i (j + 1) ≤ o) : Dec n K O (i, j, o - MB.ch i (j + 1), y + 2 ^ i) := by
  obtain ⟨h1, h2, h3, h4, h5⟩ := h
  simp only at h1 h2 h3 h4 h5
  have e : MB.ch (i + 1) (j + 1) = MB.ch i j + MB.ch i (j + 1) := rfl
  rw [MB.dec, if_neg (by omega), if_pos hc, Nat.add_sub_cancel] at h5
  rw [Nat.pow_succ] at h3
  refine ⟨by simp only; omega, ?_, by simp only; omega, by simp only; omega, by simp only; omega⟩
  simp only
  rw [Nat.add_mod_right]; exact mod_down h2
theorem dec_no {n K O i j o y : Nat} (h : Dec n K O (i + 1, j + 1, o, y)) (hc : ¬ MB.ch i (j + 1) ≤ o) : Dec n K O (i, j + 1, o, y) := by
  obtain ⟨h1, h2, h3, h4, h5⟩ := h
  simp only at h1 h2 h3 h4 h5
  rw [MB.dec, if_neg (by omega), if_neg hc] at h5
  rw [Nat.pow_succ] at h3
  exact ⟨by simp only; omega, mod_down h2, by simp only; omega, by simp only; omega, h5⟩
theorem b_block (n k off : Nat) (hn : n ≤ 62) (hk : k ≤ n) (ho : off < MB.ch n k) : Pure Tryz.prog L 192 [.i .i64 n, .i .i64 k, .i .u64 off] (.tup [.i .u64 (MB.dec n k off : Nat), .b true]) := by
  refine pure_of_W Tryz.func192 rfl rfl (by kernel_rfl) [] closed closed fun A hL => ?_
  have h64 := ch_64 n k hn
  obtain ⟨f, cs, htv, hcl, hci⟩ := tris_form n
  have hrows := b_rows (L := L) n hn
  rw [htv] at hrows
  unfold Tryz.f192
  refine go ?_
  refine (b_choose n k hn hk).does hL (go ?_)
  refine hrows.does hL (go ?_)
  refine loop_ (fun x : Nat × Nat × Nat × Nat => ⟨[(1, .i .i64 x.2.1), (2, .i .u64 x.2.2.1), (8, .sl f (n + 1) cs), (9, .i .u64 x.2.2.2), (10, .i .i64 ((x.1 : Int) - 1))], []⟩) (Dec n k off) (fun x => x.1) (n, k, off, 0) ⟨Nat.le_refl _, Nat.zero_mod _, by simp, ho, by simp⟩ (le_slots (Nat.zero_le _) (go ?_)) fun ⟨m, k', o, y⟩ hD => ?_
  · trivial
  obtain ⟨hi, hy, hyl, ho', hd⟩ := id hD
  simp only at hi hy hyl ho' hd
  have h64' := ch_64 m k' (by omega)
  have hpn := Nat.pow_lt_pow_right (show 1 < 2 by decide) (show n < 63 by omega)
  have hpm := Nat.two_pow_pos m
  have hkm : k' ≤ m := Nat.le_of_not_lt fun h => by rw [MB.ch_out m k' h] at ho'; omega
  refine go ?_
  refine ⟨fun h1 => ?_, fun h1 => go ?_⟩
  · obtain ⟨i, rfl⟩ : ∃ i, m = i + 1 := ⟨m - 1, by omega⟩
    have e1 : ((i + 1 : Nat) : Int) - 1 = (i : Nat) := by omega
    rw [e1]
    refine go ?_
    refine ⟨fun h2 => go ?_, fun h2 => ?_⟩
    · subst h2
      rw [MB.dec, if_pos rfl] at hd
      obtain rfl : y = MB.dec n k off := by omega
      exact fin_
    · obtain ⟨j, rfl⟩ : ∃ j, k' = j + 1 := ⟨k' - 1, by omega⟩
      have h64c := ch_64 i (j + 1) (by omega)
      have hor := or_high hy
      have hpi := pow64 (show i < 64 by omega)
      have hpp := Nat.pow_succ 2 i
      refine go ?_
      have key : ∀ s, s = (⟨[(1, .i .i64 (j + 1 : Nat)), (2, .i .u64 o), (8, .sl f (n + 1) cs), (9, .i .u64 y), (10, .i .i64 i), (11, .i .u64 (MB.ch i (j + 1) : Nat))], []⟩ : St) → True := fun _ _ => trivial
      refine ⟨fun h3 => ?_, fun h3 => ?_⟩
      · obtain ⟨f', hgi⟩ := hci i (by omega)
        have hrt := row_take (i := i) (k := j + 1) (by omega) (by omega)
        have hrl := row_len i (by omega)
        refine gox ?_
        refine ⟨fun h4 => gox ?_, fun h4 => gox ?_⟩
        · exact ⟨(i, j, o - MB.ch i (j + 1), y + 2 ^ i), by simp, dec_yes hD (by omega), le_slots (Nat.zero_le _) (go trivial)⟩
        · exact ⟨(i, j + 1, o, y), by simp, dec_no hD (by omega), le_slots (Nat.zero_le _) (go trivial)⟩
      · have hz := MB.ch_out i (j + 1) (by omega)
        refine gox ?_
        have := dec_yes hD (by omega)
        rw [hz, Nat.sub_zero] at this
        exact ⟨(i, j, o, y + 2 ^ i), by simp, this, le_slots (Nat.zero_le _) (go trivial)⟩
  · obtain rfl : m = 0 := by omega
    rw [MB.dec] at hd
    obtain rfl : y = MB.dec n k off := by omega
    exact fin_
end Go.Proofs.E
end
/- The program: rows of bits with counts. -/
section
set_option linter.unusedVariables false
set_option linter.unusedSimpArgs false
set_option linter.unusedSectionVars false
namespace Go.Proofs.E
open Go Go.Proofs.MV
set_option linter.unusedVariables false
set_option maxRecDepth 10000
variable {L : Nat → (Nat → Option Obj) → Prop}
def supN (l : List Bool) (k : Nat) : List Nat := (List.range k).map fun i => MR.cnt l (512 * i)
def subN (l : List Bool) (k : Nat) : List Nat := (List.range k).map fun j => MR.cnt l (64 * j) - MR.cnt l (512 * (j / 8))
theorem supN_length (l : List Bool) (k : Nat) : (supN l k).length = k := by simp [supN]
theorem subN_length (l : List Bool) (k : Nat) : (subN l k).length = k := by simp [subN]
theorem supN_getD (l : List Bool) {k i : Nat} (h : i < k) : (supN l k).getD i 0 = MR.cnt l (512 * i) := MB.natmap_getD h
theorem subN_getD (l : List Bool) {k i : Nat} (h : i < k) : (subN l k).getD i 0 = MR.cnt l (64 * i) - MR.cnt l (512 * (i / 8)) := MB.natmap_getD h
theorem supN_snoc (l : List Bool) (k : Nat) : supN l k ++ [MR.cnt l (512 * k)] = supN l (k + 1) := MK.range_snoc k
theorem subN_snoc (l : List Bool) (k : Nat) : subN l k ++ [MR.cnt l (64 * k) - MR.cnt l (512 * (k / 8))] = subN l (k + 1) := MK.range_snoc k
def plainC (l : List Bool) : List V := [.i .i64 (l.length : Nat), .sl false (wc l) (nums .u64 (wn l (wc l))), .sl false (l.length / 512 + 1) (nums .i64 (supN l (l.length / 512 + 1))), .sl false (wc l) (nums .i64 (subN l (wc l)))]
def plainV (l : List Bool) : V := .agg (plainC l)
def scN (l : List Bool) (j : Nat) : Nat := min ((j + 7) / 8) (l.length / 512 + 1)
theorem b_pbuild (l : List Bool) (hl : l.length ≤ 1048576) : Pure Tryz.prog L 49 [bitsV l] (.tup [plainV l, .i .i64 0]) := by
  refine pure_of_W Tryz.func49 rfl rfl (by kernel_rfl) [] (by unfold bitsV; exact closed) (by unfold plainV plainC; exact closed) fun A hL => ?_
  have hck := b_check (L := L) l hl
  have hw := wn_length l (wc l)
  have hc : (l.length + 63) / 64 = wc l := rfl
  unfold plainV plainC
  unfold bitsV at *
  unfold Tryz.f49
  refine go ?_
  refine hck.does hL (go ?_)
  refine loop_ (fun j : Nat => ⟨[(1, .p 0 0 0), (2, .p 1 0 0), (4, .p 2 0 0), (5, .i .i64 (MR.cnt l (64 * j) : Nat)), (16, .i .i64 (wc l + 1 : Nat)), (17, .i .i64 j)], [⟨33, 0, [.i .i64 (l.length : Nat), .sl false (wc l) (nums .u64 (wn l (wc l)))], true⟩, ⟨37, 0, [.i .i64 0, .ns, .ns, .ns], true⟩, ⟨37, 0, [.i .i64 (l.length : Nat), .sl false (wc l) (nums .u64 (wn l (wc l))), .o 3 (scN l j) 0 (scN l j), .o 4 (min j (wc l)) 0 (min j (wc l))], true⟩, ⟨3, scN l j, nums .i64 (supN l (scN l j)), true⟩, ⟨3, min j (wc l), nums .i64 (subN l (min j (wc l))), true⟩]⟩)
    (fun j => j ≤ wc l + 1) (fun j => wc l + 1 - j) 0 (Nat.zero_le _) (Le.trans (le_slots' (Nat.zero_le _) ?_ (go ?_)) (Le.trans (le_virtc 3 2 3 rfl rfl (Nat.zero_le _)) (le_virtc 3 2 2 rfl rfl (Nat.zero_le _)))) fun j hj => ?_
  · simp [scN, supN, subN, nums]
  · trivial
  have hln := hc
  refine go ?_
  refine ⟨fun h1 => ?_, fun h1 => ?_⟩
  · rw [Nat.min_eq_left (show j ≤ wc l by omega)]
    obtain ⟨q, hq⟩ : ∃ q, q = scN l j := ⟨_, rfl⟩
    have hsj : q = (j + 7) / 8 := by rw [hq]; unfold scN; omega
    have hsl := supN_length l q
    have hbl := subN_length l j
    have hcl := MR.cnt_le l (64 * j)
    have hcm := MR.cnt_mono l (show 512 * (j / 8) ≤ 64 * j by omega)
    have hmn : j < wc l → min (j + 1) (wc l) = j + 1 := fun _ => by omega
    have hmn' : ¬ j < wc l → min (j + 1) (wc l) = j := fun _ => by omega
    rw [← hq]
    have hsj' := hsj.symm
    clear hq hsj
    refine go ?_
    refine ⟨fun h2 => go ?_, fun h2 => go ?_⟩
    · refine ⟨fun h22 => gox ?_, fun h22 => gox ?_⟩
      · have e : supN l q ++ [MR.cnt l (64 * j)] = supN l (q + 1) := by rw [show 64 * j = 512 * q by omega, supN_snoc]
        have hsn : scN l (j + 1) = q + 1 := by unfold scN; omega
        rw [e]
        have hsl' := supN_length l (q + 1)
        refine ⟨fun h3 => ?_, fun h3 => ?_⟩
        · have hget := supN_getD l (k := q + 1) (i := j / 8) (by omega)
          have hwg := wn_getD l (wc l) j (by omega)
          have hpw := MB.pop_le (wN l j) 64
          refine gox ?_
          refine regD 11 (by kernel_rfl) (by kernel_rfl) (gox ?_)
          rw [subN_snoc]
          refine (b_pop (wN l j) (wN_lt l j)).does hL (go ?_)
          refine ⟨j + 1, by omega, by omega, le_slots' (Nat.zero_le _) ?_ (go ?_)⟩
          · rw [hsn, hmn h3]
          · rw [cnt_words]
        · have hcw : MR.cnt l (64 * (j + 1)) = MR.cnt l (64 * j) := by rw [cnt_words, wN_out l j (by omega)]; rfl
          refine go ?_
          refine ⟨j + 1, by omega, by omega, le_slots' (Nat.zero_le _) ?_ (go ?_)⟩
          · rw [hsn, hmn' h3]
          · rw [hcw]
      · have hsn : scN l (j + 1) = q := by unfold scN; omega
        have h3 : ¬ j < wc l := by omega
        have hcw : MR.cnt l (64 * (j + 1)) = MR.cnt l (64 * j) := by rw [cnt_words, wN_out l j (by omega)]; rfl
        refine ⟨j + 1, by omega, by omega, le_slots' (Nat.zero_le _) ?_ (go ?_)⟩
        · rw [hsn, hmn' h3]
        · rw [hcw]
    · have hsn : scN l (j + 1) = q := by unfold scN; omega
      have hsl' := supN_length l (q)
      refine ⟨fun h3 => ?_, fun h3 => ?_⟩
      · have hget := supN_getD l (k := q) (i := j / 8) (by omega)
        have hwg := wn_getD l (wc l) j (by omega)
        have hpw := MB.pop_le (wN l j) 64
        refine gox ?_
        refine regD 11 (by kernel_rfl) (by kernel_rfl) (gox ?_)
        rw [subN_snoc]
        refine (b_pop (wN l j) (wN_lt l j)).does hL (go ?_)
        refine ⟨j + 1, by omega, by omega, le_slots' (Nat.zero_le _) ?_ (go ?_)⟩
        · rw [hsn, hmn h3]
        · rw [cnt_words]
      · have hcw : MR.cnt l (64 * (j + 1)) = MR.cnt l (64 * j) := by rw [cnt_words, wN_out l j (by omega)]; rfl
        refine go ?_
        refine ⟨j + 1, by omega, by omega, le_slots' (Nat.zero_le _) ?_ (go ?_)⟩
        · rw [hsn, hmn' h3]
        · rw [hcw]
  · obtain rfl : j = wc l + 1 := by omega
    have hsf : scN l (wc l + 1) = l.length / 512 + 1 := by unfold scN; omega
    have hsl := supN_length l (l.length / 512 + 1)
    have hbl := subN_length l (wc l)
    rw [hsf, Nat.min_eq_right (by omega)]
    refine go ?_
    exact fin_
end Go.Proofs.E
end
/- The program: rows of bits with counts: reading. -/
section
set_option linter.unusedVariables false
set_option linter.unusedSimpArgs false
set_option linter.unusedSectionVars false
namespace Go.Proofs.E
open Go Go.Proofs.MV
set_option linter.unusedVariables false
set_option maxRecDepth 10000
variable {L : Nat → (Nat → Option Obj) → Prop}
theorem b_eq_int (l : List Nat) (hl : l.length < 1000000000) : Pure Tryz.prog L 164 [.sl false l.length (nums .i64 l), .sl false l.length (nums .i64 l)] (.b true) := by
  refine pure_of_W Tryz.func164 rfl rfl (by kernel_rfl) [] closed closed fun A hL => ?_
  unfold Tryz.f164
  refine go ?_
  refine loop_ (fun i : Nat => ⟨[(0, .sl false l.length (nums .i64 l)), (1, .sl false l.length (nums .i64 l)), (12, .i .i64 l.length), (13, .i .i64 i)], []⟩) (fun i => i ≤ l.length) (fun i => l.length - i) 0 (Nat.zero_le _) (le_slots (Nat.zero_le _) (go ?_)) fun i hi => go ?_
  · trivial
  refine ⟨fun h1 => go ?_, fun h1 => go ?_⟩
  · refine regD 9 (by kernel_rfl) (by kernel_rfl) (go ?_)
    exact ⟨i + 1, by omega, by omega, le_slots (Nat.zero_le _) (go trivial)⟩
  · exact fin_
theorem b_eq_u64 (l : List Nat) (hl : l.length < 1000000000) : Pure Tryz.prog L 191 [.sl false l.length (nums .u64 l), .sl false l.length (nums .u64 l)] (.b true) := by
  refine pure_of_W Tryz.func191 rfl rfl (by kernel_rfl) [] closed closed fun A hL => ?_
  unfold Tryz.f191
  refine go ?_
  refine loop_ (fun i : Nat => ⟨[(0, .sl false l.length (nums .u64 l)), (1, .sl false l.length (nums .u64 l)), (12, .i .i64 l.length), (13, .i .i64 i)], []⟩) (fun i => i ≤ l.length) (fun i => l.length - i) 0 (Nat.zero_le _) (le_slots (Nat.zero_le _) (go ?_)) fun i hi => go ?_
  · trivial
  refine ⟨fun h1 => go ?_, fun h1 => go ?_⟩
  · refine regD 9 (by kernel_rfl) (by kernel_rfl) (go ?_)
    exact ⟨i + 1, by omega, by omega, le_slots (Nat.zero_le _) (go trivial)⟩
  · exact fin_
theorem b_pcheck (l : List Bool) (hl : l.length ≤ 1048576) : Pure Tryz.prog L 123 [plainV l] (.b true) := by
  refine pure_of_W Tryz.func123 rfl rfl (by kernel_rfl) [] (by unfold plainV plainC; exact closed) closed fun A hL => ?_
  have hb := b_pbuild (L := L) l hl
  have hc : (l.length + 63) / 64 = wc l := rfl
  have e1 := b_eq_int (L := L) (supN l (l.length / 512 + 1)) (by rw [supN_length]; omega)
  have e2 := b_eq_int (L := L) (subN l (wc l)) (by rw [subN_length]; omega)
  rw [supN_length] at e1
  rw [subN_length] at e2
  unfold plainV plainC bitsV at *
  unfold Tryz.f123
  refine go ?_
  refine hb.does hL (go ?_)
  refine e1.does hL (go ?_)
  refine e2.does hL (go ?_)
  exact fin_
theorem b_pbits (l : List Bool) (hl : l.length ≤ 1048576) : Pure Tryz.prog L 136 [plainV l] (bitsV l) := by
  refine pure_of_W Tryz.func136 rfl rfl (by kernel_rfl) [] (by unfold plainV plainC; exact closed) (by unfold bitsV; exact closed) fun A hL => ?_
  have hck := b_pcheck (L := L) l hl
  unfold plainV plainC bitsV at *
  unfold Tryz.f136
  refine go ?_
  refine hck.does hL (go ?_)
  exact fin_
theorem b_paccess (l : List Bool) (hl : l.length ≤ 1048576) (i : Nat) (hi : i < l.length) : Pure Tryz.prog L 111 [plainV l, .i .i64 i] (.tup [.b (bt l i), .i .i64 0]) := by
  refine pure_of_W Tryz.func111 rfl rfl (by kernel_rfl) [] (by unfold plainV plainC; exact closed) closed fun A hL => ?_
  have hck := b_pcheck (L := L) l hl
  have hg := b_get (L := L) l hl i hi
  unfold plainV plainC bitsV at *
  unfold Tryz.f111
  refine go ?_
  refine hck.does hL (go ?_)
  refine hg.does hL (go ?_)
  exact fin_
theorem b_psize (l : List Bool) (hl : l.length ≤ 1048576) : Pure Tryz.prog L 68 [plainV l] (.i .i64 (l.length + 32 * (l.length / 512 + 1) + 16 * wc l : Nat)) := by
  refine pure_of_W Tryz.func68 rfl rfl (by kernel_rfl) [] (by unfold plainV plainC; exact closed) closed fun A hL => ?_
  have hck := b_pcheck (L := L) l hl
  have hc : (l.length + 63) / 64 = wc l := rfl
  unfold plainV plainC at *
  unfold Tryz.f68
  refine go ?_
  refine hck.does hL (go ?_)
  exact fin_
theorem b_pones (l : List Bool) (hl : l.length ≤ 1048576) (i : Nat) (hi : i ≤ l.length) : Pure Tryz.prog L 167 [plainV l, .i .i64 i] (.i .i64 (MR.cnt l i : Nat)) := by
  refine pure_of_W Tryz.func167 rfl rfl (by kernel_rfl) [] (by unfold plainV plainC; exact closed) closed fun A hL => ?_
  have ho := b_ones (L := L) l hl i hi
  have hw := wn_length l (wc l)
  have hc : (l.length + 63) / 64 = wc l := rfl
  unfold plainV plainC bitsV at *
  unfold Tryz.f167
  refine go ?_
  refine ⟨fun h1 => go ?_, fun h1 => go ?_⟩
  · refine ho.does hL (go ?_)
    exact fin_
  · have g1 := supN_getD l (k := l.length / 512 + 1) (i := i / 64 / 8) (by omega)
    have g2 := subN_getD l (k := wc l) (i := i / 64) (by omega)
    have g3 := wn_getD l (wc l) (i / 64) (by omega)
    have l1 := supN_length l (l.length / 512 + 1)
    have l2 := subN_length l (wc l)
    have c1 := MR.cnt_le l (64 * (i / 64))
    have c2 := MR.cnt_mono l (show 512 * (i / 64 / 8) ≤ 64 * (i / 64) by omega)
    have hpl := MB.pop_le (wN l (i / 64)) (i % 64)
    refine regD 23 (by kernel_rfl) (by kernel_rfl) (gox ?_)
    refine ⟨_, (b_rank (wN l (i / 64)) (i % 64) (wN_lt _ _) (by omega)).does hL ⟨rfl, rfl⟩, go ?_⟩
    have hcw := MR.cnt_word l (i / 64) (i % 64) (by omega)
    rw [Nat.div_add_mod] at hcw
    rw [show MR.cnt l (512 * (i / 64 / 8)) + (MR.cnt l (64 * (i / 64)) - MR.cnt l (512 * (i / 64 / 8))) + MP.pop (i % 64) (wN l (i / 64)) = MR.cnt l i by omega]
    exact fin_
theorem b_pahead (l : List Bool) (hl : l.length ≤ 1048576) (b : Bool) (i : Nat) (hi : i ≤ l.length) : Pure Tryz.prog L 129 [plainV l, .b b, .i .i64 i] (.i .i64 (MR.rk b l i : Nat)) := by
  refine pure_of_W Tryz.func129 rfl rfl (by kernel_rfl) [] (by unfold plainV plainC; exact closed) closed fun A hL => ?_
  have ho := b_pones (L := L) l hl i hi
  have hcl := MR.cnt_le l i
  unfold MR.rk
  unfold plainV plainC at *
  unfold Tryz.f129
  cases b <;> refine go ?_ <;> refine ho.does hL (go ?_) <;> exact fin_
theorem b_prank (l : List Bool) (hl : l.length ≤ 1048576) (b : Bool) (i : Nat) (hi : i ≤ l.length) : Pure Tryz.prog L 76 [plainV l, .b b, .i .i64 i] (.tup [.i .i64 (MR.rk b l i : Nat), .i .i64 0]) := by
  refine pure_of_W Tryz.func76 rfl rfl (by kernel_rfl) [] (by unfold plainV plainC; exact closed) closed fun A hL => ?_
  have hck := b_pcheck (L := L) l hl
  have ho := b_pahead (L := L) l hl b i hi
  unfold plainV plainC at *
  unfold Tryz.f76
  refine go ?_
  refine hck.does hL (go ?_)
  refine ho.does hL (go ?_)
  exact fin_
/-- A word of a row, or of what is not in it. -/
def wb (b : Bool) (l : List Bool) (j : Nat) : Nat := if b then wN l j else 18446744073709551616 - (wN l j + 1)
theorem wb_lt (b : Bool) (l : List Bool) (j : Nat) : wb b l j < 2 ^ 64 := by unfold wb; have := wN_lt l j; split <;> omega
theorem wb_bit (b : Bool) (l : List Bool) (j i : Nat) (hi : i < 64) : (wb b l j).testBit i = (bt l (64 * j + i) == b) := by
  unfold wb
  cases b
  · rw [if_neg (by decide), show (18446744073709551616 : Nat) = 2 ^ 64 from rfl, Nat.testBit_two_pow_sub_succ (wN_lt l j), wN_bit]
    simp [hi]
  · rw [if_pos rfl, wN_bit]; simp [hi]
theorem wb_pop (b : Bool) (l : List Bool) (j : Nat) : ∀ i, i ≤ 64 → MR.rk b l (64 * j + i) = MR.rk b l (64 * j) + MP.pop i (wb b l j)
  | 0, _ => rfl
  | i + 1, h => by rw [← Nat.add_assoc, MR.rk_succ, wb_pop b l j i (by omega), MP.pop_succ, wb_bit b l j i (by omega), Nat.add_assoc]
theorem sel_wb {b : Bool} {l : List Bool} {k p j : Nat} (h : MR.Sel b l k p) (hj : p / 64 = j) : MR.rk b l (64 * j) ≤ k ∧ k - MR.rk b l (64 * j) < MP.pop 64 (wb b l j) ∧ MP.sel (wb b l j) (k - MR.rk b l (64 * j)) = p % 64 := by
  subst hj
  have h1 := wb_pop b l (p / 64) (p % 64) (by omega)
  rw [Nat.div_add_mod, h.rank] at h1
  have hb : (wb b l (p / 64)).testBit (p % 64) = true := by rw [wb_bit b l _ _ (by omega), Nat.div_add_mod, h.bit]; simp
  have h2 : MP.pop (p % 64 + 1) (wb b l (p / 64)) = MP.pop (p % 64) (wb b l (p / 64)) + 1 := by rw [MP.pop_succ, hb]; rfl
  have h3 := MP.pop_mono (wb b l (p / 64)) (show p % 64 + 1 ≤ 64 by omega)
  have hk : k - MR.rk b l (64 * (p / 64)) < MP.pop 64 (wb b l (p / 64)) := by omega
  obtain ⟨_, s2, s3, s4⟩ := MP.sel_spec (wb b l (p / 64)) _ (wb_lt b l _) hk
  exact ⟨by omega, hk, MP.sel_uniq _ s3 hb (by omega)⟩
theorem b_pselect (hT : ∀ n c, L n c → TabL n c) (l : List Bool) (hl : l.length ≤ 1048576) (b : Bool) (k p : Nat) (hs : MR.Sel b l k p) : Pure Tryz.prog L 79 [plainV l, .b b, .i .i64 k] (.tup [.i .i64 p, .i .i64 0]) := by
  refine pure_of_W Tryz.func79 rfl rfl (by kernel_rfl) [] (by unfold plainV plainC; exact closed) closed fun A hL => ?_
  have hck := b_pcheck (L := L) l hl
  have ho := fun i hi => b_pahead (L := L) l hl b i hi
  have hc : (l.length + 63) / 64 = wc l := rfl
  have hw := wn_length l (wc l)
  have hsl := MR.sel_lt hs
  have hplt := hs.lt
  have hlt2 := subN_length l (wc l)
  have hrl := MR.rk_le b l l.length
  have hcmp : ∀ i, MR.rk b l i ≤ k ↔ i ≤ p := fun i => by
    constructor
    · intro h
      refine Nat.le_of_not_lt fun hlt => ?_
      have := MR.rk_mono b l (show p + 1 ≤ i from hlt)
      rw [MR.rk_succ, hs.bit, hs.rank] at this; simp at this; omega
    · intro h
      have := MR.rk_mono b l h
      rw [hs.rank] at this; exact this
  unfold plainV plainC at *
  unfold Tryz.f79
  refine go ?_
  refine hck.does hL (go ?_)
  refine (ho l.length (Nat.le_refl _)).does hL (go ?_)
  refine regD 5 (by kernel_rfl) (by kernel_rfl) (go ?_)
  refine loop_ (fun x : Nat × Nat => ⟨[(1, .b b), (2, .i .i64 k), (3, .p 0 0 0), (8, .i .i64 x.1), (9, .i .i64 x.2)], _⟩) (fun x => x.1 ≤ p / 64 ∧ p / 64 < x.2 ∧ x.2 ≤ wc l) (fun x => x.2 - x.1) (0, wc l) ⟨Nat.zero_le _, by omega, Nat.le_refl _⟩ (le_slots (Nat.zero_le _) (go ?_)) fun ⟨lo, hi⟩ ⟨i1, i2, i3⟩ => ?_
  · trivial
  simp only at i1 i2 i3
  refine go ?_
  refine ⟨fun h1 => go ?_, fun h1 => go ?_⟩
  · refine (ho ((lo + hi) / 2 * 64) (by omega)).does hL (go ?_)
    have hcm := hcmp ((lo + hi) / 2 * 64)
    refine ⟨fun h2 => go ?_, fun h2 => go ?_⟩
    · exact ⟨((lo + hi) / 2, hi), by simp only; omega, ⟨by simp only; omega, i2, i3⟩, le_slots (Nat.zero_le _) (go trivial)⟩
    · exact ⟨(lo, (lo + hi) / 2), by simp only; omega, ⟨i1, by simp only; omega, by simp only; omega⟩, le_slots (Nat.zero_le _) (go trivial)⟩
  · obtain ⟨s1, s2, s3⟩ := sel_wb hs (show p / 64 = lo by omega)
    have g3 := wn_getD l (wc l) lo (by omega)
    have hwl := wN_lt l lo
    have hbs := b_select hT (L := L) (wb b l lo) _ (wb_lt b l lo) s2
    have hos := ho (lo * 64) (by omega)
    rw [show MR.rk b l (lo * 64) = MR.rk b l (64 * lo) by rw [Nat.mul_comm]] at hos
    rw [s3] at hbs
    have hpp := Nat.div_add_mod p 64
    cases b
    · rw [show wb false l lo = 18446744073709551616 - (wN l lo + 1) from rfl] at hbs
      refine gox ?_
      refine hos.does hL (gox ?_)
      refine hbs.does hL (gox ?_)
      rw [show lo * 64 + p % 64 = p by omega]
      exact fin_
    · rw [show wb true l lo = wN l lo from rfl] at hbs
      refine gox ?_
      refine hos.does hL (gox ?_)
      refine hbs.does hL (gox ?_)
      rw [show lo * 64 + p % 64 = p by omega]
      exact fin_
end Go.Proofs.E
end
/- The program: rows of bits in blocks of fifteen. -/
section
set_option linter.unusedVariables false
set_option linter.unusedSimpArgs false
set_option linter.unusedSectionVars false
namespace Go.Proofs.E
open Go Go.Proofs.MV Go.Proofs.MI
set_option linter.unusedVariables false
set_option maxRecDepth 10000
variable {L : Nat → (Nat → Option Obj) → Prop}
theorem b_slice' (l : List Bool) (hl : l.length ≤ 1048576) (p n : Nat) (hp : p + n ≤ l.length) (hn : n ≤ 64) : Pure Tryz.prog L 89 [bitsV l, .i .i64 p, .i .i64 n] (.tup [.i .u64 (piece l p n : Nat), .i .i64 0]) := by
  by_cases h0 : 0 < n
  · exact b_slice l hl p n hp h0 hn
  obtain rfl : n = 0 := by omega
  refine pure_of_W Tryz.func89 rfl rfl (by kernel_rfl) [] (by unfold bitsV; exact closed) closed fun A hL => ?_
  have hck := b_check (L := L) l hl
  unfold bitsV at *
  unfold Tryz.f89
  refine go ?_
  refine hck.does hL (go ?_)
  have hp0 : piece l p 0 = 0 := rfl
  rw [hp0]
  exact ⟨6, rfl⟩
theorem b_none : Pure Tryz.prog L 91 [] (.agg [.i .i64 0, .i .u64 0]) := by
  refine pure_of_W Tryz.func91 rfl rfl (by kernel_rfl) [] closed closed fun A hL => ?_
  unfold Tryz.f91
  refine go ?_
  exact fin_
theorem b_blockOf (x : Nat) (hx : x < 2 ^ 64) : Pure Tryz.prog L 90 [.i .u64 x] (.agg [.i .i64 (MP.pop 15 x : Nat), .i .u64 (MB.enc x 15 : Nat)]) := by
  refine pure_of_W Tryz.func90 rfl rfl (by kernel_rfl) [] closed closed fun A hL => ?_
  unfold Tryz.f90
  refine go ?_
  refine b_none.does hL (go ?_)
  refine (b_offset x 15 hx (by decide)).does hL (go ?_)
  exact fin_
def onesG (l : List Bool) (g : Nat) : List Nat := (List.range g).map fun g => MR.cnt l (15 * (8 * g))
def pointsG (l : List Bool) (g : Nat) : List Nat := (List.range g).map fun g => MK.pts l (8 * g)
def classG (l : List Bool) (i : Nat) : List Nat := (List.range i).map (MK.cl l)
theorem onesG_length (l : List Bool) (g : Nat) : (onesG l g).length = g := by simp [onesG]
theorem pointsG_length (l : List Bool) (g : Nat) : (pointsG l g).length = g := by simp [pointsG]
theorem classG_length (l : List Bool) (g : Nat) : (classG l g).length = g := by simp [classG]
theorem onesG_snoc (l : List Bool) (k : Nat) : onesG l k ++ [MR.cnt l (15 * (8 * k))] = onesG l (k + 1) := MK.range_snoc k
theorem pointsG_snoc (l : List Bool) (k : Nat) : pointsG l k ++ [MK.pts l (8 * k)] = pointsG l (k + 1) := MK.range_snoc k
theorem classG_snoc (l : List Bool) (k : Nat) : classG l k ++ [MK.cl l k] = classG l (k + 1) := MK.range_snoc k
def offC (l : List Bool) (i : Nat) : List V := [.i .i64 (MK.pts l i : Nat), .sl false (wc (MK.offs l i)) (nums .u64 (wn (MK.offs l i) (wc (MK.offs l i))))]
/-- One, made of bits. -/
def rrrC (l : List Bool) : List V := [.i .i64 (l.length : Nat), .i .i64 (MK.nb l : Nat), .i .i64 4, .i .i64 (MK.nb l * 4 : Nat), .sl false (wc (flat 4 (classG l (MK.nb l)))) (nums .u64 (wn (flat 4 (classG l (MK.nb l))) (wc (flat 4 (classG l (MK.nb l)))))),
  .i .i64 (MK.pts l (MK.nb l) : Nat), .sl false (wc (MK.offs l (MK.nb l))) (nums .u64 (wn (MK.offs l (MK.nb l)) (wc (MK.offs l (MK.nb l))))), .sl false (MK.ng l) (nums .i64 (onesG l (MK.ng l))), .sl false (MK.ng l) (nums .i64 (pointsG l (MK.ng l)))]
def rrrV (l : List Bool) : V := .agg (rrrC l)
def rrrH (l : List Bool) (i g : Nat) : Heap :=
  [⟨33, 0, [.i .i64 (l.length : Nat), .sl false (wc l) (nums .u64 (wn l (wc l)))], true⟩, ⟨41, 0, [.i .i64 0, .i .i64 0, .i .i64 0, .i .i64 0, .ns, .i .i64 0, .ns, .ns, .ns], true⟩,
   ⟨41, 0, [.i .i64 (l.length : Nat), .i .i64 0, .i .i64 0, .i .i64 0, .ns, .i .i64 (MK.pts l i : Nat), .sl false (wc (MK.offs l i)) (nums .u64 (wn (MK.offs l i) (wc (MK.offs l i)))), .o 4 g 0 g, .o 5 g 0 g], true⟩,
   ⟨95, i, nums .u64 (classG l i), true⟩, ⟨3, g, nums .i64 (onesG l g), true⟩, ⟨3, g, nums .i64 (pointsG l g), true⟩]
theorem wid_le (d : Nat) (h1 : 1 ≤ d) (l : List Nat) : ∀ j, (∀ i, i < j → l.getD i 0 < 2 ^ d) → wid l j ≤ d
  | 0, _ => h1
  | j + 1, h => by
    have := wid_le d h1 l j fun i hi => h i (by omega)
    have := MI.bitLen_le 64 (l.getD j 0) d (h j (by omega))
    have e : Lib.bitLen (l.getD j 0) = Lib.bitLenAux 64 (l.getD j 0) := rfl
    show max (wid l j) (Lib.bitLen (l.getD j 0)) ≤ d
    omega
theorem b_classes (l : List Bool) (i : Nat) (hi : i ≤ 100000) : Pure Tryz.prog L 94 [.i .i64 4, .sl false i (nums .u64 (classG l i))] (.tup [.agg [.i .i64 i, .i .i64 4, .i .i64 (i * 4 : Nat), .sl false (wc (flat 4 (classG l i))) (nums .u64 (wn (flat 4 (classG l i)) (wc (flat 4 (classG l i)))))], .i .i64 0]) := by
  have hg : ∀ j, j < i → (classG l i).getD j 0 < 2 ^ 4 := fun j hj => by rw [show (classG l i).getD j 0 = MK.cl l j from MB.natmap_getD hj]; have := MK.cl_le l j; omega
  have hln := classG_length l i
  have := b_make (L := L) 4 (classG l i) (by decide) (by decide) (by rw [hln]; omega) (fun j hj => hg j (by omega)) (by rw [hln]; exact wid_le 4 (by decide) _ i hg)
  unfold intsV at this
  rw [hln] at this
  exact this
set_option maxHeartbeats 2000000 in
theorem b_rbuild (l : List Bool) (hl : l.length ≤ 1000000) : Pure Tryz.prog L 50 [bitsV l] (.tup [rrrV l, .i .i64 0]) := by
  refine pure_of_W Tryz.func50 rfl rfl (by kernel_rfl) [88] (by unfold bitsV; exact closed) (by unfold rrrV rrrC; exact closed) fun A hL => ?_
  have hck := b_check (L := L) l (by omega)
  have hsl0 := fun p n a b => b_slice' (L := L) l (by omega) p n a b
  have hap0 := fun i a => b_append (L := L) (MK.offs l i) (MK.of l i) (MK.wdt 15 (MK.cl l i)) (Nat.lt_of_lt_of_le (MK.of_lt l i) (Nat.pow_le_pow_right (by decide) (Nat.le_trans MK.wdt_le (by decide)))) (Nat.le_trans MK.wdt_le (by decide)) a
  have hc : (l.length + 63) / 64 = wc l := rfl
  have hw := wn_length l (wc l)
  have hnb : (l.length + 14) / 15 = MK.nb l := rfl
  unfold bitsV at *
  unfold Tryz.f50
  refine go ?_
  refine hck.does hL (go ?_)
  refine loop_ (fun i : Nat => ⟨[(1, .p 0 0 0), (2, .p 1 0 0), (4, .p 2 0 0), (5, .o 3 i 0 i), (6, .i .i64 (MR.cnt l (15 * i) : Nat)), (7, .i .i64 (15 * i : Nat))], rrrH l i ((i + 7) / 8)⟩)
    (fun i => i ≤ MK.nb l) (fun i => MK.nb l - i) 0 (Nat.zero_le _) (Le.trans (le_slots' (Nat.zero_le _) ?_ (go ?_)) (Le.trans (le_nilc 2 6 rfl rfl (Nat.zero_le _)) (Le.trans (le_virtc 3 2 8 rfl rfl (Nat.zero_le _)) (Le.trans (le_virtc 3 2 7 rfl rfl (Nat.zero_le _)) (le_virt 95 (T' := [(1, .p 0 0 0), (2, .p 1 0 0), (4, .p 2 0 0), (5, .o 3 0 0 0), (6, .i .i64 0), (7, .i .i64 0)]) (Nat.zero_le _) (go ?_)))))) fun i hi => ?_
  · simp [rrrH, MK.pts, MK.offs, wc, wn, onesG, pointsG, classG, nums]
  · trivial
  · trivial
  have hpl := MK.pts_le l i
  have hg0 := classG_length l i
  have hcl := MK.cl_le l i
  have hcn := MR.cnt_le l (15 * i)
  unfold rrrH
  refine go ?_
  refine ⟨fun h1 => go ?_, fun h1 => go ?_⟩
  · have hsl := hsl0 (15 * i) (min 15 (l.length - 15 * i)) (by omega) (by omega)
    rw [MK.piece_min l (15 * i) 15 (by omega), show piece l (15 * i) 15 = MK.bk l i from rfl] at hsl
    have hbo : Pure Tryz.prog L 90 [.i .u64 (MK.bk l i : Nat)] (.agg [.i .i64 (MK.cl l i : Nat), .i .u64 (MK.of l i : Nat)]) := b_blockOf (MK.bk l i) (Nat.lt_of_lt_of_le (MK.bk_lt l i) (by decide))
    have hwd : Pure Tryz.prog L 93 [.i .i64 15, .i .i64 (MK.cl l i : Nat)] (.i .i64 (MK.wdt 15 (MK.cl l i) : Nat)) := b_bwidth 15 (MK.cl l i) (by decide) hcl
    have hwl : MK.wdt 15 (MK.cl l i) ≤ 15 := MK.wdt_le
    have hap := hap0 i (show MK.pts l i + _ ≤ _ by omega)
    rw [show MK.offs l i ++ bitsOf (MK.of l i) (MK.wdt 15 (MK.cl l i)) = MK.offs l (i + 1) from rfl, show (MK.offs l i).length = MK.pts l i from rfl, show (MK.offs l (i + 1)).length = MK.pts l (i + 1) from rfl] at hap
    have hcx := MK.cnt_next l i
    refine ⟨fun h2 => ?_, fun h2 => go ?_⟩
    · obtain ⟨q, rfl⟩ : ∃ q, i = 8 * q := ⟨i / 8, by omega⟩
      rw [show (8 * q + 7) / 8 = q by omega]
      generalize hi8 : 8 * q = i at *
      have hg1 := onesG_length l q
      have hg2 := pointsG_length l q
      have e1 := onesG_snoc l q
      have e2 := pointsG_snoc l q
      rw [hi8] at e1 e2
      refine go ?_
      refine regT 13 4 11 [] [] (fun x y => [⟨33, 0, [.i .i64 (l.length : Nat), .sl false (wc l) (nums .u64 (wn l (wc l)))], true⟩, ⟨41, 0, [.i .i64 0, .i .i64 0, .i .i64 0, .i .i64 0, .ns, .i .i64 0, .ns, .ns, .ns], true⟩, ⟨41, 0, [.i .i64 (l.length : Nat), .i .i64 0, .i .i64 0, .i .i64 0, .ns, .i .i64 (MK.pts l (i) : Nat), .sl false (wc (MK.offs l (i))) (nums .u64 (wn (MK.offs l (i)) (wc (MK.offs l (i))))), .o 4 (q) 0 (q), .o 5 (q) 0 (q)], true⟩, ⟨95, i, nums .u64 (classG l i), true⟩, if x = true then ⟨3, q + 1, nums .i64 (onesG l (q) ++ [MR.cnt l (15 * i)]), true⟩ else ⟨3, q, nums .i64 (onesG l (q)), true⟩, if y = true then ⟨3, q + 1, nums .i64 (pointsG l (q) ++ [MK.pts l i]), true⟩ else ⟨3, q, nums .i64 (pointsG l (q)), true⟩]) (by kernel_rfl) (by kernel_rfl) (by kernel_rfl) rfl ?t1 (fun x y => ?_) ?_
      rotate_left
      · cases x <;> cases y <;> (refine go ?_; first | exact True.intro | rfl)
      · refine go ?_
        rw [e1, e2]
        refine hsl.does hL (go ?_)
        refine hbo.does hL (go ?_)
        rw [classG_snoc]
        refine regD 3 (by kernel_rfl) (by kernel_rfl) (go ?_)
        refine ⟨_, b_none.does hL ⟨rfl, rfl⟩, go ?_⟩
        refine onCb (fun hx => go ?_) (fun hx => go ?_)
        · have ⟨hc0, ho0⟩ : MK.cl l i = 0 ∧ MK.of l i = 0 := by simpa using hx
          have hoff : MK.offs l (i + 1) = MK.offs l i := by
            show MK.offs l i ++ bitsOf (MK.of l i) (MK.wdt 15 (MK.cl l i)) = _
            rw [hc0]
            exact List.append_nil _
          have hpt : MK.pts l (i + 1) = MK.pts l i := by unfold MK.pts; rw [hoff]
          refine ⟨i + 1, by omega, by omega, le_gc 6 (Nat.zero_le _) (by simp) ?_ (go ?_)⟩
          · rw [show (i + 1 + 7) / 8 = q + 1 by omega, hpt, hoff]
            refine go ?_
            first | exact True.intro | rfl
          · omega
        · refine regT 13 12 10 [11, 9, 8, 7, 6, 5, 4, 3, 2, 1, 0] [] (fun x y => [⟨33, 0, [.i .i64 (l.length : Nat), .sl false (wc l) (nums .u64 (wn l (wc l)))], true⟩, ⟨41, 0, [.i .i64 0, .i .i64 0, .i .i64 0, .i .i64 0, .ns, .i .i64 0, .ns, .ns, .ns], true⟩, if x = true then ⟨41, 0, [.i .i64 (l.length : Nat), .i .i64 0, .i .i64 0, .i .i64 0, .ns, .i .i64 (MK.pts l (i + 1) : Nat), .sl false (wc (MK.offs l (i + 1))) (nums .u64 (wn (MK.offs l (i + 1)) (wc (MK.offs l (i + 1))))), .o 4 (q + 1) 0 (q + 1), .o 5 (q + 1) 0 (q + 1)], true⟩ else ⟨41, 0, [.i .i64 (l.length : Nat), .i .i64 0, .i .i64 0, .i .i64 0, .ns, .i .i64 (MK.pts l (i) : Nat), .sl false (wc (MK.offs l (i))) (nums .u64 (wn (MK.offs l (i)) (wc (MK.offs l (i))))), .o 4 (q + 1) 0 (q + 1), .o 5 (q + 1) 0 (q + 1)], true⟩, ⟨95, i + 1, nums .u64 (classG l (i + 1)), true⟩, ⟨3, q + 1, nums .i64 (onesG l (q + 1)), true⟩, ⟨3, q + 1, nums .i64 (pointsG l (q + 1)), true⟩, ⟨135, 0, [.i .i64 (MK.cl l i : Nat), .i .u64 (MK.of l i : Nat)], true⟩]) (by kernel_rfl) (by kernel_rfl) (by kernel_rfl) rfl ?t2 (fun x y => ?_) ?_
          rotate_left
          · cases x <;> cases y <;> (refine go ?_; refine ⟨_, hwd.does hL ⟨rfl, rfl⟩, ?_⟩; refine ⟨_, hap.does hL ⟨rfl, rfl⟩, ?_⟩; refine go ?_; first | exact True.intro | rfl)
          · refine go ?_
            refine ⟨i + 1, by omega, by omega, le_gc 6 (Nat.zero_le _) (by simp) ?_ (go ?_)⟩
            · rw [show (i + 1 + 7) / 8 = q + 1 by omega]
              refine go ?_
              first | exact True.intro | rfl
            · omega
    · obtain ⟨q, hq⟩ : ∃ q, (i + 7) / 8 = q := ⟨_, rfl⟩
      rw [hq]
      refine hsl.does hL (go ?_)
      refine hbo.does hL (go ?_)
      rw [classG_snoc]
      refine regD 3 (by kernel_rfl) (by kernel_rfl) (go ?_)
      refine ⟨_, b_none.does hL ⟨rfl, rfl⟩, go ?_⟩
      refine onCb (fun hx => go ?_) (fun hx => go ?_)
      · have ⟨hc0, ho0⟩ : MK.cl l i = 0 ∧ MK.of l i = 0 := by simpa using hx
        have hoff : MK.offs l (i + 1) = MK.offs l i := by
          show MK.offs l i ++ bitsOf (MK.of l i) (MK.wdt 15 (MK.cl l i)) = _
          rw [hc0]
          exact List.append_nil _
        have hpt : MK.pts l (i + 1) = MK.pts l i := by unfold MK.pts; rw [hoff]
        refine ⟨i + 1, by omega, by omega, le_gc 6 (Nat.zero_le _) (by simp) ?_ (go ?_)⟩
        · rw [show (i + 1 + 7) / 8 = q by omega, hpt, hoff]
          refine go ?_
          first | exact True.intro | rfl
        · omega
      · refine regT 13 12 10 [11, 9, 8, 7, 6, 5, 4, 3, 2, 1, 0] [] (fun x y => [⟨33, 0, [.i .i64 (l.length : Nat), .sl false (wc l) (nums .u64 (wn l (wc l)))], true⟩, ⟨41, 0, [.i .i64 0, .i .i64 0, .i .i64 0, .i .i64 0, .ns, .i .i64 0, .ns, .ns, .ns], true⟩, if x = true then ⟨41, 0, [.i .i64 (l.length : Nat), .i .i64 0, .i .i64 0, .i .i64 0, .ns, .i .i64 (MK.pts l (i + 1) : Nat), .sl false (wc (MK.offs l (i + 1))) (nums .u64 (wn (MK.offs l (i + 1)) (wc (MK.offs l (i + 1))))), .o 4 (q) 0 (q), .o 5 (q) 0 (q)], true⟩ else ⟨41, 0, [.i .i64 (l.length : Nat), .i .i64 0, .i .i64 0, .i .i64 0, .ns, .i .i64 (MK.pts l (i) : Nat), .sl false (wc (MK.offs l (i))) (nums .u64 (wn (MK.offs l (i)) (wc (MK.offs l (i))))), .o 4 (q) 0 (q), .o 5 (q) 0 (q)], true⟩, ⟨95, i + 1, nums .u64 (classG l (i + 1)), true⟩, ⟨3, q, nums .i64 (onesG l (q)), true⟩, ⟨3, q, nums .i64 (pointsG l (q)), true⟩, ⟨135, 0, [.i .i64 (MK.cl l i : Nat), .i .u64 (MK.of l i : Nat)], true⟩]) (by kernel_rfl) (by kernel_rfl) (by kernel_rfl) rfl ?t3 (fun x y => ?_) ?_
        rotate_left
        · cases x <;> cases y <;> (refine go ?_; refine ⟨_, hwd.does hL ⟨rfl, rfl⟩, ?_⟩; refine ⟨_, hap.does hL ⟨rfl, rfl⟩, ?_⟩; refine go ?_; first | exact True.intro | rfl)
        · refine go ?_
          refine ⟨i + 1, by omega, by omega, le_gc 6 (Nat.zero_le _) (by simp) ?_ (go ?_)⟩
          · rw [show (i + 1 + 7) / 8 = q by omega]
            refine go ?_
            first | exact True.intro | rfl
          · omega
  · refine ⟨fun h2 => ?_, fun h2 => ?_⟩
    · obtain rfl : i = 0 := by omega
      have hl0 : l.length = 0 := by omega
      have hnb0 : MK.nb l = 0 := by omega
      have hng0 : MK.ng l = 1 := by unfold MK.ng; rw [hnb0]; rfl
      have hg1 := onesG_length l 0
      have hg2 := pointsG_length l 0
      have e1 : onesG l 0 ++ [MR.cnt l 0] = onesG l 1 := onesG_snoc l 0
      have e2 : pointsG l 0 ++ [MK.pts l 0] = pointsG l 1 := pointsG_snoc l 0
      have hmk := b_classes (L := L) l 0 (by omega)
      have h11 := onesG_length l 1
      have h12 := pointsG_length l 1
      have hwcl := classG_length l 0
      unfold rrrV rrrC
      rw [hng0, hnb0]
      rw [show (0 + 7) / 8 = 0 from rfl] at *
      refine go ?_
      refine regT 13 4 11 [] [] (fun x y => [⟨33, 0, [.i .i64 (l.length : Nat), .sl false (wc l) (nums .u64 (wn l (wc l)))], true⟩, ⟨41, 0, [.i .i64 0, .i .i64 0, .i .i64 0, .i .i64 0, .ns, .i .i64 0, .ns, .ns, .ns], true⟩, ⟨41, 0, [.i .i64 (l.length : Nat), .i .i64 0, .i .i64 0, .i .i64 0, .ns, .i .i64 (MK.pts l (0) : Nat), .sl false (wc (MK.offs l (0))) (nums .u64 (wn (MK.offs l (0)) (wc (MK.offs l (0))))), .o 4 (0) 0 (0), .o 5 (0) 0 (0)], true⟩, ⟨95, 0, nums .u64 (classG l 0), true⟩, if x = true then ⟨3, 0 + 1, nums .i64 (onesG l (0) ++ [MR.cnt l (15 * 0)]), true⟩ else ⟨3, 0, nums .i64 (onesG l (0)), true⟩, if y = true then ⟨3, 0 + 1, nums .i64 (pointsG l (0) ++ [MK.pts l 0]), true⟩ else ⟨3, 0, nums .i64 (pointsG l (0)), true⟩]) (by kernel_rfl) (by kernel_rfl) (by kernel_rfl) rfl ?t4 (fun x y => ?_) ?_
      rotate_left
      · cases x <;> cases y <;> (refine go ?_; first | exact True.intro | rfl)
      · refine go ?_
        rw [e1, e2]
        refine hmk.does hL (go ?_)
        exact fin_
    · obtain rfl : i = MK.nb l := by omega
      have hgq : (MK.nb l + 7) / 8 = MK.ng l := by unfold MK.ng; omega
      have hg1 := onesG_length l (MK.ng l)
      have hg2 := pointsG_length l (MK.ng l)
      have hmk := b_classes (L := L) l (MK.nb l) (by omega)
      unfold rrrV rrrC
      rw [hgq]
      refine go ?_
      refine hmk.does hL (go ?_)
      exact fin_
end Go.Proofs.E
end
/- The program: rows of bits in blocks of fifteen: reading all. -/
section
set_option linter.unusedVariables false
set_option linter.unusedSimpArgs false
set_option linter.unusedSectionVars false
namespace Go.Proofs.E
open Go Go.Proofs.MV Go.Proofs.MI
set_option linter.unusedVariables false
set_option maxRecDepth 10000
variable {L : Nat → (Nat → Option Obj) → Prop}
theorem ints_class (l : List Bool) : intsV 4 (classG l (MK.nb l)) = .agg [.i .i64 (MK.nb l : Nat), .i .i64 (4 : Nat), .i .i64 (MK.nb l * 4 : Nat), .sl false (wc (flat 4 (classG l (MK.nb l)))) (nums .u64 (wn (flat 4 (classG l (MK.nb l))) (wc (flat 4 (classG l (MK.nb l))))))] := by
  unfold intsV; rw [classG_length]
theorem class_lt (l : List Bool) (i : Nat) : ∀ j, j < i → (classG l i).getD j 0 < 2 ^ 4 := fun j hj => by rw [show (classG l i).getD j 0 = MK.cl l j from MB.natmap_getD hj]; have := MK.cl_le l j; omega
set_option maxHeartbeats 1000000 in
theorem b_rrow (l : List Bool) (hl : l.length ≤ 1000000) : Pure Tryz.prog L 186 [rrrV l] (.tup [bitsV l, .b true]) := by
  refine pure_of_W Tryz.func186 rfl rfl (by kernel_rfl) [] (by unfold rrrV rrrC; exact closed) (by unfold bitsV; exact closed) fun A hL => ?_
  have hnb : (l.length + 14) / 15 = MK.nb l := rfl
  have hgl := classG_length l (MK.nb l)
  have hpn := MK.pts_le l (MK.nb l)
  have hci := b_icheck (L := L) 4 (classG l (MK.nb l)) (by decide) (by decide) (by rw [hgl]; omega)
  have hcl := b_list (L := L) 4 (classG l (MK.nb l)) (by decide) (by decide) (by rw [hgl]; omega) (by rw [hgl]; exact class_lt l _)
  rw [ints_class] at hci hcl
  rw [hgl] at hcl
  have hck := b_check (L := L) (MK.offs l (MK.nb l)) (show MK.pts l (MK.nb l) ≤ _ by omega)
  have hsl := fun p n a b => b_slice' (L := L) (MK.offs l (MK.nb l)) (show MK.pts l (MK.nb l) ≤ _ by omega) p n a b
  have hap := fun j a b c => b_append (L := L) (l.take (15 * j)) (MK.bk l j) (min 15 (l.length - 15 * j)) a b c
  unfold rrrV rrrC
  unfold bitsV at *
  rw [show (MK.offs l (MK.nb l)).length = MK.pts l (MK.nb l) from rfl] at hck hsl
  unfold Tryz.f186
  refine go ?_
  refine hci.does hL (go ?_)
  refine hck.does hL (go ?_)
  refine hcl.does hL (go ?_)
  refine loop_ (fun j : Nat => ⟨[(1, .p 0 0 0), (2, .p 1 0 0), (4, .p 2 0 0), (5, .i .i64 (MK.pts l j : Nat)), (48, .sl false (MK.nb l) (nums .u64 (classG l (MK.nb l)))), (49, .i .i64 (MK.nb l : Nat)), (50, .i .i64 j)],
    [⟨41, 0, rrrC l, true⟩, ⟨33, 0, [.i .i64 0, .ns], true⟩, ⟨33, 0, [.i .i64 ((l.take (15 * j)).length : Nat), .sl false (wc (l.take (15 * j))) (nums .u64 (wn (l.take (15 * j)) (wc (l.take (15 * j)))))], true⟩]⟩)
    (fun j => j ≤ MK.nb l) (fun j => MK.nb l - j) 0 (Nat.zero_le _) (Le.trans (le_slots' (Nat.zero_le _) ?_ (go ?_)) (le_nilc 2 1 rfl rfl (Nat.zero_le _))) fun j hj => ?_
  · simp [rrrC, wc, wn, nums]
  · rfl
  unfold rrrC
  refine go ?_
  refine ⟨fun h1 => ?_, fun h1 => ?_⟩
  · have hlen : (l.take (15 * j)).length = 15 * j := by rw [List.length_take]; omega
    have hcj : (classG l (MK.nb l)).getD j 0 = MK.cl l j := MB.natmap_getD h1
    have hc15 := MK.cl_le l j
    have hwd : Pure Tryz.prog L 93 [.i .i64 15, .i .i64 (MK.cl l j : Nat)] (.i .i64 (MK.wdt 15 (MK.cl l j) : Nat)) := b_bwidth 15 (MK.cl l j) (by decide) hc15
    have hbl : Pure Tryz.prog L 192 [.i .i64 15, .i .i64 (MK.cl l j : Nat), .i .u64 (MK.of l j : Nat)] (.tup [.i .u64 (MB.dec 15 (MK.cl l j) (MK.of l j) : Nat), .b true]) := b_block 15 (MK.cl l j) (MK.of l j) (by decide) hc15 (MK.of_ch l j)
    rw [MK.dec_of] at hbl
    have hps := MK.pts_succ l j
    have hpm := MK.pts_mono l (show j + 1 ≤ MK.nb l from h1)
    have hw15 : MK.wdt 15 (MK.cl l j) ≤ 15 := MK.wdt_le
    have hsl' := hsl (MK.pts l j) (MK.wdt 15 (MK.cl l j)) (show MK.pts l j + _ ≤ MK.pts l (MK.nb l) by omega) (by omega)
    rw [MK.offs_piece l h1] at hsl'
    have hbs := MK.bk_small l j (by omega)
    have hbk := MK.bk_lt l j
    have hlb : Lib.bitLen (MK.bk l j) ≤ min 15 (l.length - 15 * j) := MI.bitLen_le 64 _ _ hbs
    have hap' := hap j (by omega) (by omega) (by rw [hlen]; omega)
    rw [MK.take_bk l j (by omega), hlen] at hap'
    rw [hlen]
    refine gox ?_
    refine hwd.does hL (go ?_)
    refine hsl'.does hL (go ?_)
    refine hbl.does hL (go ?_)
    refine (b_len (MK.bk l j) (by omega)).does hL (go ?_)
    refine hap'.does hL (go ?_)
    exact ⟨j + 1, by omega, by omega, le_slots (Nat.zero_le _) (go hps)⟩
  · obtain rfl : j = MK.nb l := by omega
    have ht : l.take (15 * MK.nb l) = l := List.take_of_length_le (by omega)
    rw [ht]
    refine go ?_
    exact fin_
theorem b_rsame (l : List Bool) (hl : l.length ≤ 1000000) : Pure Tryz.prog L 187 [rrrV l, rrrV l] (.b true) := by
  refine pure_of_W Tryz.func187 rfl rfl (by kernel_rfl) [] (by unfold rrrV rrrC; exact closed) closed fun A hL => ?_
  have hnb : (l.length + 14) / 15 = MK.nb l := rfl
  have hpn := MK.pts_le l (MK.nb l)
  have hng : MK.ng l ≤ MK.nb l + 1 := by unfold MK.ng; omega
  have e1 := b_eq_u64 (L := L) (wn (flat 4 (classG l (MK.nb l))) (wc (flat 4 (classG l (MK.nb l))))) (by rw [wn_length]; unfold wc; rw [flat_length, classG_length]; omega)
  have e2 := b_eq_u64 (L := L) (wn (MK.offs l (MK.nb l)) (wc (MK.offs l (MK.nb l)))) (by rw [wn_length]; show (MK.pts l (MK.nb l) + 63) / 64 < _; omega)
  have e3 := b_eq_int (L := L) (onesG l (MK.ng l)) (by rw [onesG_length]; omega)
  have e4 := b_eq_int (L := L) (pointsG l (MK.ng l)) (by rw [pointsG_length]; omega)
  rw [wn_length] at e1 e2
  rw [onesG_length] at e3
  rw [pointsG_length] at e4
  unfold rrrV rrrC
  unfold Tryz.f187
  refine go ?_
  refine e1.does hL (go ?_)
  refine e2.does hL (go ?_)
  refine e3.does hL (go ?_)
  refine e4.does hL (go ?_)
  exact fin_
theorem b_rwhole (l : List Bool) (hl : l.length ≤ 1000000) : Pure Tryz.prog L 165 [rrrV l] (.tup [bitsV l, .b true]) := by
  refine pure_of_W Tryz.func165 rfl rfl (by kernel_rfl) [] (by unfold rrrV rrrC; exact closed) (by unfold bitsV; exact closed) fun A hL => ?_
  have h1 := b_rrow (L := L) l hl
  have h2 := b_rbuild (L := L) l hl
  have h3 := b_rsame (L := L) l hl
  unfold rrrV rrrC bitsV at *
  unfold Tryz.f165
  refine go ?_
  refine h1.does hL (go ?_)
  refine h2.does hL (go ?_)
  refine h3.does hL (go ?_)
  exact fin_
theorem b_rcheck (l : List Bool) (hl : l.length ≤ 1000000) : Pure Tryz.prog L 124 [rrrV l] (.b true) := by
  refine pure_of_W Tryz.func124 rfl rfl (by kernel_rfl) [] (by unfold rrrV rrrC; exact closed) closed fun A hL => ?_
  have h1 := b_rwhole (L := L) l hl
  unfold rrrV rrrC bitsV at *
  unfold Tryz.f124
  refine go ?_
  refine h1.does hL (go ?_)
  exact fin_
theorem b_rbits (l : List Bool) (hl : l.length ≤ 1000000) : Pure Tryz.prog L 137 [rrrV l] (bitsV l) := by
  refine pure_of_W Tryz.func137 rfl rfl (by kernel_rfl) [] (by unfold rrrV rrrC; exact closed) (by unfold bitsV; exact closed) fun A hL => ?_
  have h1 := b_rwhole (L := L) l hl
  unfold rrrV rrrC bitsV at *
  unfold Tryz.f137
  refine go ?_
  refine h1.does hL (go ?_)
  exact fin_
theorem b_rsize (l : List Bool) (hl : l.length ≤ 1000000) : Pure Tryz.prog L 69 [rrrV l] (.i .i64 (MK.nb l * 4 + MK.pts l (MK.nb l) + 64 * MK.ng l : Nat)) := by
  refine pure_of_W Tryz.func69 rfl rfl (by kernel_rfl) [] (by unfold rrrV rrrC; exact closed) closed fun A hL => ?_
  have h1 := b_rcheck (L := L) l hl
  have hnb : (l.length + 14) / 15 = MK.nb l := rfl
  have hpn := MK.pts_le l (MK.nb l)
  have hng : MK.ng l ≤ MK.nb l + 1 := by unfold MK.ng; omega
  unfold rrrV rrrC at *
  unfold Tryz.f69
  refine go ?_
  refine h1.does hL (go ?_)
  exact fin_
theorem b_rget (l : List Bool) (hl : l.length ≤ 1000000) (i : Nat) (hi : i < MK.nb l) : Pure Tryz.prog L 169 [rrrV l, .i .i64 i, .i .i64 (MK.pts l i : Nat)] (.tup [.i .u64 (MK.bk l i : Nat), .i .i64 (MK.wdt 15 (MK.cl l i) : Nat)]) := by
  refine pure_of_W Tryz.func169 rfl rfl (by kernel_rfl) [] (by unfold rrrV rrrC; exact closed) closed fun A hL => ?_
  have hnb : (l.length + 14) / 15 = MK.nb l := rfl
  have hgl := classG_length l (MK.nb l)
  have hpn := MK.pts_le l (MK.nb l)
  have hcj : (classG l (MK.nb l)).getD i 0 = MK.cl l i := MB.natmap_getD hi
  have hg := b_iget (L := L) 4 (classG l (MK.nb l)) (by decide) (by decide) (by rw [hgl]; omega) i (by rw [hgl]; exact hi) (class_lt l _ i hi)
  rw [ints_class, hcj] at hg
  have hsl := fun p n a b => b_slice' (L := L) (MK.offs l (MK.nb l)) (show MK.pts l (MK.nb l) ≤ _ by omega) p n a b
  unfold rrrV rrrC
  unfold bitsV at *
  rw [show (MK.offs l (MK.nb l)).length = MK.pts l (MK.nb l) from rfl] at hsl
  have hc15 := MK.cl_le l i
  have hwd : Pure Tryz.prog L 93 [.i .i64 15, .i .i64 (MK.cl l i : Nat)] (.i .i64 (MK.wdt 15 (MK.cl l i) : Nat)) := b_bwidth 15 (MK.cl l i) (by decide) hc15
  have hbl : Pure Tryz.prog L 192 [.i .i64 15, .i .i64 (MK.cl l i : Nat), .i .u64 (MK.of l i : Nat)] (.tup [.i .u64 (MB.dec 15 (MK.cl l i) (MK.of l i) : Nat), .b true]) := b_block 15 (MK.cl l i) (MK.of l i) (by decide) hc15 (MK.of_ch l i)
  rw [MK.dec_of] at hbl
  have hps := MK.pts_succ l i
  have hpm := MK.pts_mono l (show i + 1 ≤ MK.nb l from hi)
  have hw15 : MK.wdt 15 (MK.cl l i) ≤ 15 := MK.wdt_le
  have hsl' := hsl (MK.pts l i) (MK.wdt 15 (MK.cl l i)) (show MK.pts l i + _ ≤ MK.pts l (MK.nb l) by omega) (by omega)
  rw [MK.offs_piece l hi] at hsl'
  unfold Tryz.f169
  refine go ?_
  refine hg.does hL (go ?_)
  refine hwd.does hL (go ?_)
  refine hsl'.does hL (go ?_)
  refine hbl.does hL (go ?_)
  exact fin_
end Go.Proofs.E
end
/- The program: rows of bits in blocks of fifteen: along the blocks. -/
section
set_option linter.unusedVariables false
set_option linter.unusedSimpArgs false
set_option linter.unusedSectionVars false
namespace Go.Proofs.E
open Go Go.Proofs.MV Go.Proofs.MI
set_option linter.unusedVariables false
set_option maxRecDepth 10000
variable {L : Nat → (Nat → Option Obj) → Prop}
theorem b_mask_big (n : Nat) (hn : 64 < n) (h : n ≤ 1000000) : Pure Tryz.prog L 99 [.i .i64 n] (.i .u64 18446744073709551615) := by
  refine pure_of_W Tryz.func99 rfl rfl (by kernel_rfl) [] closed (.i _ _) fun A hL => ?_
  have h1 : ¬ (0 : Int) < 64 - (n : Int) := by omega
  have hw : IntKind.i64.wrap (64 - (n : Int)) = 64 - (n : Int) := wI64 (by omega) (by omega)
  unfold Tryz.f99
  refine gox ?_
  exact fin_
theorem b_rank' (x n : Nat) (hx : x < 2 ^ 64) (hn : n ≤ 1000000) : Pure Tryz.prog L 148 [.i .u64 x, .i .i64 n] (.i .i64 (MP.pop (min n 64) x : Nat)) := by
  by_cases h : n ≤ 64
  · rw [Nat.min_eq_left h]; exact b_rank x n hx h
  rw [Nat.min_eq_right (by omega)]
  refine pure_of_W Tryz.func148 rfl rfl (by kernel_rfl) [] closed (.i _ _) fun A hL => ?_
  have ha : (x &&& 18446744073709551615) = x := by have := Nat.and_two_pow_sub_one_eq_mod x 64; rw [Nat.mod_eq_of_lt hx] at this; exact this
  unfold Tryz.f148
  refine go ?_
  refine (b_mask_big n (by omega) hn).does hL (gox ?_)
  refine (b_pop x hx).does hL (go ?_)
  exact fin_
theorem b_select_none (x k : Nat) (hx : x < 2 ^ 64) (hk : MP.pop 64 x ≤ k) : Pure Tryz.prog L 132 [.i .u64 x, .i .i64 k] (.i .i64 64) := by
  refine pure_of_W Tryz.func132 rfl rfl (by kernel_rfl) [] closed (.i _ _) fun A hL => ?_
  unfold Tryz.f132
  refine go ?_
  refine (b_pop x hx).does hL (go ?_)
  exact fin_
theorem b_visit {A : Amb} (hL : L A.n A.c) (i w o at_ : Nat) (hi : 15 * i ≤ at_) (hat : at_ ≤ 1000000) (hi2 : i ≤ 1000000) (hw : w < 2 ^ 64) (ho : o ≤ 1000000) {H : Heap} {b1 b2 : Nat} {z : V} {K : V → Heap → Prop} (h1 : H[b1]? = some ⟨3, 0, [.i .i64 at_], true⟩) (h2 : H[b2]? = some ⟨3, 0, [z], true⟩) (hne : b1 ≠ b2)
    (hK : K (.b (decide ((i + 1) * 15 < at_))) (H.set b2 ⟨3, 0, [.i .i64 (o + MP.pop (min (at_ - 15 * i) 64) w : Nat)], true⟩)) :
    Does Tryz.prog A 185 [.i .i64 i, .i .u64 w, .i .i64 o, .p b1 0 0, .p b2 0 0] H K := by
  refine does_of_W Tryz.func185 rfl rfl (by kernel_rfl) [] ?_
  have hs := fun k' => (List.getElem?_set_ne (Ne.symm hne) (l := H) (a := k')).trans h1
  have hb2 : b2 < H.length := (List.getElem?_eq_some_iff.1 h2).1
  have hpl := MB.pop_le w (min (at_ - 15 * i) 64)
  have hmi : i * 15 ≤ at_ := by omega
  have hme : at_ - i * 15 = at_ - 15 * i := by omega
  unfold Tryz.f185
  refine gox ?_
  refine (b_rank' w (at_ - 15 * i) hw (by omega)).does hL (gox ?_)
  trivial
theorem onesG_getD (l : List Bool) {g k : Nat} (h : g < k) : (onesG l k).getD g 0 = MR.cnt l (15 * (8 * g)) := MB.natmap_getD h
theorem pointsG_getD (l : List Bool) {g k : Nat} (h : g < k) : (pointsG l k).getD g 0 = MK.pts l (8 * g) := MB.natmap_getD h
theorem b_walk {A : Amb} (hL : L A.n A.c) (l : List Bool) (hl : l.length ≤ 1000000) (at_ : Nat) (h0 : 0 < at_) (hat : at_ ≤ l.length) {H : Heap} {b1 b2 : Nat} {K : V → Heap → Prop} (h1 : H[b1]? = some ⟨3, 0, [.i .i64 at_], true⟩) (h2 : H[b2]? = some ⟨3, 0, [.i .i64 (0 : Nat)], true⟩) (hne : b1 ≠ b2)
    (hK : ∀ k0, K (.tup []) (H.set b2 ⟨3, 0, [.i .i64 (MR.cnt l at_ : Nat)], true⟩ ++ [k0])) :
    Does Tryz.prog A 133 [rrrV l, .i .i64 ((at_ - 1) / 15 : Nat), .f (.func 185) [] [.p b1 0 0, .p b2 0 0]] H K := by
  refine does_of_W Tryz.func133 rfl rfl (by kernel_rfl) [] ?_
  have hnb : (l.length + 14) / 15 = MK.nb l := rfl
  have hng : (MK.nb l + 7) / 8 = MK.ng l := by unfold MK.ng; omega
  have hb1 : b1 < H.length := (List.getElem?_eq_some_iff.1 h1).1
  have hb2 : b2 < H.length := (List.getElem?_eq_some_iff.1 h2).1
  have hs1 := fun k' => (List.getElem?_set_ne (Ne.symm hne) (l := H) (a := k')).trans h1
  have hs2 := fun k' => getSet (k' := k') h2
  have ho := onesG_getD l (g := (at_ - 1) / 15 / 8) (k := MK.ng l) (by omega)
  have hp := pointsG_getD l (g := (at_ - 1) / 15 / 8) (k := MK.ng l) (by omega)
  have hol := onesG_length l (MK.ng l)
  have hpl := pointsG_length l (MK.ng l)
  have hget := fun i hi => b_rget (L := L) l hl i hi
  have hpn := MK.pts_le l (MK.nb l)
  unfold rrrV rrrC at *
  unfold Tryz.f133
  refine go ?_
  refine regD 12 (by kernel_rfl) (by kernel_rfl) (gox ?_)
  refine loop_ (fun x : Nat × Nat => ⟨[(2, .f (.func 185) [] [.p b1 0 0, .p b2 0 0]), (3, .p H.length 0 0), (7, .i .i64 (MR.cnt l (15 * x.1) : Nat)), (8, .i .i64 (MK.pts l x.1 : Nat)), (9, .i .i64 x.1)], H.set b2 ⟨3, 0, [.i .i64 x.2], true⟩ ++ [⟨41, 0, rrrC l, true⟩]⟩)
    (fun x => 15 * x.1 < at_) (fun x => at_ - 15 * x.1) (8 * ((at_ - 1) / 15 / 8), 0) (show 15 * (8 * ((at_ - 1) / 15 / 8)) < at_ by omega) (le_slots' ?_ (by rw [setSelf h2]; rfl) (go ?_)) fun ⟨i, o⟩ hi => ?_
  · simp
  · omega
  simp only at hi
  have hil : i < MK.nb l := by omega
  have hpi := MK.pts_mono l (show i ≤ MK.nb l by omega)
  have hcn := MR.cnt_le l (15 * i)
  have hbl := MK.bk_lt l i
  unfold rrrC
  refine go ?_
  refine (hget i hil).does hL (gox ?_)
  refine b_visit hL i (MK.bk l i) (MR.cnt l (15 * i)) at_ (by omega) (by omega) (by omega) (by omega) (by omega) ((List.getElem?_append_left (by rw [List.length_set]; exact hb1)).trans (hs1 _)) ((List.getElem?_append_left (by rw [List.length_set]; exact hb2)).trans (hs2 _)) hne (gox ?_)
  have hp15 : MP.pop 64 (MK.bk l i) = MK.cl l i := by have := pop_low 15 (MK.bk l i) (by decide); rw [Nat.mod_eq_of_lt hbl] at this; exact this
  have hcx := MK.cnt_next l i
  have hps := MK.pts_succ l i
  have hc15 := MK.cl_le l i
  have hw15 : MK.wdt 15 (MK.cl l i) ≤ 15 := MK.wdt_le
  refine ⟨fun h3 => gox ?_, fun h3 => ?_⟩
  · have hpp := b_pop (L := L) (MK.bk l i) (by omega)
    rw [hp15] at hpp
    refine hpp.does hL (go ?_)
    refine ⟨(i + 1, MR.cnt l (15 * i) + MP.pop (min (at_ - 15 * i) 64) (MK.bk l i)), by simp only; omega, by simp only; omega, le_slots' (by simp) rfl (go ?_)⟩
    omega
  · have hr : MR.cnt l (15 * i) + MP.pop (min (at_ - 15 * i) 64) (MK.bk l i) = MR.cnt l at_ := by
      have := MK.cnt_bk l i (at_ - 15 * i) (by omega)
      rw [show 15 * i + (at_ - 15 * i) = at_ by omega] at this
      rw [Nat.min_eq_left (by omega), this]
    rw [hr]
    refine go ?_
    exact hK _
theorem b_rones (l : List Bool) (hl : l.length ≤ 1000000) (i : Nat) (hi : i ≤ l.length) : Pure Tryz.prog L 158 [rrrV l, .i .i64 i] (.i .i64 (MR.cnt l i : Nat)) := by
  refine pure_of_W Tryz.func158 rfl rfl (by kernel_rfl) [] (by unfold rrrV rrrC; exact closed) closed fun A hL => ?_
  have hw := fun {H : Heap} {b1 b2 : Nat} {K : V → Heap → Prop} h0 => b_walk hL l hl i (H := H) (b1 := b1) (b2 := b2) (K := K) h0 hi
  unfold rrrV rrrC at *
  unfold Tryz.f158
  refine go ?_
  refine ⟨fun h1 => go ?_, fun h1 => go ?_⟩
  · subst h1
    rw [show MR.cnt l 0 = 0 from rfl]
    exact fin_
  · refine hw (by omega) rfl rfl (by decide) fun k0 => go ?_
    exact fin_
theorem b_rahead (l : List Bool) (hl : l.length ≤ 1000000) (b : Bool) (i : Nat) (hi : i ≤ l.length) : Pure Tryz.prog L 130 [rrrV l, .b b, .i .i64 i] (.i .i64 (MR.rk b l i : Nat)) := by
  refine pure_of_W Tryz.func130 rfl rfl (by kernel_rfl) [] (by unfold rrrV rrrC; exact closed) closed fun A hL => ?_
  have ho := b_rones (L := L) l hl i hi
  have hcl := MR.cnt_le l i
  unfold MR.rk
  unfold rrrV rrrC at *
  unfold Tryz.f130
  cases b <;> refine go ?_ <;> refine ho.does hL (go ?_) <;> exact fin_
theorem b_rrank (l : List Bool) (hl : l.length ≤ 1000000) (b : Bool) (i : Nat) (hi : i ≤ l.length) : Pure Tryz.prog L 77 [rrrV l, .b b, .i .i64 i] (.tup [.i .i64 (MR.rk b l i : Nat), .i .i64 0]) := by
  refine pure_of_W Tryz.func77 rfl rfl (by kernel_rfl) [] (by unfold rrrV rrrC; exact closed) closed fun A hL => ?_
  have hck := b_rcheck (L := L) l hl
  have ho := b_rahead (L := L) l hl b i hi
  unfold rrrV rrrC at *
  unfold Tryz.f77
  refine go ?_
  refine hck.does hL (go ?_)
  refine ho.does hL (go ?_)
  exact fin_
theorem b_raccess (l : List Bool) (hl : l.length ≤ 1000000) (i : Nat) (hi : i < l.length) : Pure Tryz.prog L 112 [rrrV l, .i .i64 i] (.tup [.b (bt l i), .i .i64 0]) := by
  refine pure_of_W Tryz.func112 rfl rfl (by kernel_rfl) [] (by unfold rrrV rrrC; exact closed) closed fun A hL => ?_
  have hck := b_rcheck (L := L) l hl
  have h1 := b_rones (L := L) l hl (i + 1) (by omega)
  have h2 := b_rones (L := L) l hl i (by omega)
  have he : decide (MR.cnt l i < MR.cnt l (i + 1)) = bt l i := by
    cases h : bt l i
    · rw [cnt_f h]; simp
    · rw [cnt_t h]; simp
  unfold rrrV rrrC at *
  unfold Tryz.f112
  refine go ?_
  refine hck.does hL (go ?_)
  refine regD 10 (by kernel_rfl) (by kernel_rfl) (go ?_)
  refine ⟨_, h1.does hL ⟨rfl, rfl⟩, ?_⟩
  refine ⟨_, h2.does hL ⟨rfl, rfl⟩, ?_⟩
  refine go ?_
  rw [he]
  exact fin_
end Go.Proofs.E
end
/- The program: rows of bits in blocks of fifteen: places. -/
section
set_option linter.unusedVariables false
set_option linter.unusedSimpArgs false
set_option linter.unusedSectionVars false
namespace Go.Proofs.E
open Go Go.Proofs.MV Go.Proofs.MI
set_option linter.unusedVariables false
set_option maxRecDepth 10000
variable {L : Nat → (Nat → Option Obj) → Prop}
/-- A block of a row, or of what is not in it. -/
def wk (b : Bool) (l : List Bool) (i : Nat) : Nat := if b then MK.bk l i else 32767 - MK.bk l i
theorem wk_lt (b : Bool) (l : List Bool) (i : Nat) : wk b l i < 2 ^ 15 := by unfold wk; have := MK.bk_lt l i; split <;> omega
theorem wk_bit (b : Bool) (l : List Bool) (i j : Nat) (hj : j < 15) : (wk b l i).testBit j = (bt l (15 * i + j) == b) := by
  unfold wk
  cases b
  · have := Nat.testBit_two_pow_sub_succ (MK.bk_lt l i) j
    rw [if_neg (by decide), show 32767 - MK.bk l i = 2 ^ 15 - (MK.bk l i + 1) by omega, this, MK.bk_bit]
    simp [hj]
  · rw [if_pos rfl, MK.bk_bit]; simp [hj]
theorem wk_pop (b : Bool) (l : List Bool) (i : Nat) : ∀ n, n ≤ 15 → MR.rk b l (15 * i + n) = MR.rk b l (15 * i) + MP.pop n (wk b l i)
  | 0, _ => rfl
  | n + 1, h => by rw [← Nat.add_assoc, MR.rk_succ, wk_pop b l i n (by omega), MP.pop_succ, wk_bit b l i n (by omega), Nat.add_assoc]
theorem wk_pop64 (b : Bool) (l : List Bool) (i : Nat) : MP.pop 64 (wk b l i) = MP.pop 15 (wk b l i) := by
  have := pop_low 15 (wk b l i) (by decide)
  rw [Nat.mod_eq_of_lt (wk_lt b l i)] at this; exact this
theorem wk_next (b : Bool) (l : List Bool) (i : Nat) : MR.rk b l (15 * (i + 1)) = MR.rk b l (15 * i) + MP.pop 64 (wk b l i) := by
  rw [wk_pop64, show 15 * (i + 1) = 15 * i + 15 by omega]; exact wk_pop b l i 15 (Nat.le_refl _)
theorem sel_wk {b : Bool} {l : List Bool} {k p i : Nat} (h : MR.Sel b l k p) (hi : p / 15 = i) : MR.rk b l (15 * i) ≤ k ∧ k - MR.rk b l (15 * i) < MP.pop 64 (wk b l i) ∧ MP.sel (wk b l i) (k - MR.rk b l (15 * i)) = p % 15 := by
  subst hi
  have h1 := wk_pop b l (p / 15) (p % 15) (by omega)
  rw [Nat.div_add_mod, h.rank] at h1
  have hb : (wk b l (p / 15)).testBit (p % 15) = true := by rw [wk_bit b l _ _ (by omega), Nat.div_add_mod, h.bit]; simp
  have h2 : MP.pop (p % 15 + 1) (wk b l (p / 15)) = MP.pop (p % 15) (wk b l (p / 15)) + 1 := by rw [MP.pop_succ, hb]; rfl
  have h3 := MP.pop_mono (wk b l (p / 15)) (show p % 15 + 1 ≤ 64 by omega)
  have hk : k - MR.rk b l (15 * (p / 15)) < MP.pop 64 (wk b l (p / 15)) := by omega
  obtain ⟨_, s2, s3, s4⟩ := MP.sel_spec (wk b l (p / 15)) _ (Nat.lt_of_lt_of_le (wk_lt b l _) (by decide)) hk
  exact ⟨by omega, hk, MP.sel_uniq _ s3 hb (by omega)⟩
theorem sel_cmp {b : Bool} {l : List Bool} {k p : Nat} (hs : MR.Sel b l k p) (i : Nat) : MR.rk b l i ≤ k ↔ i ≤ p := by
  constructor
  · intro h
    refine Nat.le_of_not_lt fun hlt => ?_
    have := MR.rk_mono b l (show p + 1 ≤ i from hlt)
    rw [MR.rk_succ, hs.bit, hs.rank] at this; simp at this; omega
  · intro h
    have := MR.rk_mono b l h
    rw [hs.rank] at this; exact this
/-- word.Select, of whatever number. -/
def selW (x k : Nat) : Nat := if k < MP.pop 64 x then MP.sel x k else 64
theorem selW_le (x k : Nat) (hx : x < 2 ^ 64) : selW x k ≤ 64 := by
  unfold selW; split
  · rename_i h; have := (MP.sel_spec x k hx h).2.1; omega
  · exact Nat.le_refl _
theorem b_selW (hT : ∀ n c, L n c → TabL n c) (x k : Nat) (hx : x < 2 ^ 64) : Pure Tryz.prog L 132 [.i .u64 x, .i .i64 k] (.i .i64 (selW x k : Nat)) := by
  unfold selW
  split
  · rename_i h; exact b_select hT x k hx h
  · rename_i h; exact b_select_none x k hx (by omega)
theorem b_visitS (hT : ∀ n c, L n c → TabL n c) {A : Amb} (hL : L A.n A.c) (l : List Bool) (b : Bool) (i k : Nat) (hi : 15 * i ≤ 1000000) (hk : MR.rk b l (15 * i) ≤ k) (hk2 : k ≤ 1000000) {H : Heap} {b1 b2 b3 : Nat} {z : V} {K : V → Heap → Prop} (h1 : H[b1]? = some ⟨4, 0, [.b b], true⟩) (h2 : H[b2]? = some ⟨3, 0, [.i .i64 k], true⟩) (h3 : H[b3]? = some ⟨3, 0, [z], true⟩) (hn1 : b1 ≠ b3) (hn2 : b2 ≠ b3)
    (hK : K (.b (decide (MR.rk b l (15 * (i + 1)) ≤ k))) (H.set b3 ⟨3, 0, [.i .i64 (15 * i + selW (wk b l i) (k - MR.rk b l (15 * i)) : Nat)], true⟩)) :
    Does Tryz.prog A 134 [.i .i64 i, .i .u64 (MK.bk l i : Nat), .i .i64 (MR.cnt l (15 * i) : Nat), .p b1 0 0, .p b2 0 0, .p b3 0 0] H K := by
  refine does_of_W Tryz.func134 rfl rfl (by kernel_rfl) [] ?_
  have hs1 := fun k' => (List.getElem?_set_ne (Ne.symm hn1) (l := H) (a := k')).trans h1
  have hs2 := fun k' => (List.getElem?_set_ne (Ne.symm hn2) (l := H) (a := k')).trans h2
  have hb3 : b3 < H.length := (List.getElem?_eq_some_iff.1 h3).1
  have hbk := MK.bk_lt l i
  have hcn := MR.cnt_le l (15 * i)
  have hwk := wk_lt b l i
  have hsw := selW_le (wk b l i) (k - MR.rk b l (15 * i)) (by omega)
  have hp := b_pop (L := L) (wk b l i) (by omega)
  have hsel := b_selW (L := L) hT (wk b l i) (k - MR.rk b l (15 * i)) (by omega)
  have hm : Pure Tryz.prog L 99 [.i .i64 15] (.i .u64 32767) := b_mask 15 (by decide)
  have hnx := wk_next b l i
  rw [hnx] at hK
  have hpl := MB.pop_le (wk b l i) 64
  have hrl := MR.rk_le b l (15 * i)
  have hmi : i * 15 = 15 * i := Nat.mul_comm _ _
  unfold Tryz.f134
  cases b
  · have hand : (18446744073709551616 - (MK.bk l i + 1) &&& 32767) = wk false l i := by
      have := Nat.and_two_pow_sub_one_eq_mod (18446744073709551616 - (MK.bk l i + 1)) 15
      rw [show (32767 : Nat) = 2 ^ 15 - 1 from rfl, this]
      unfold wk
      rw [if_neg (by decide)]
      omega
    have hrk : 15 * i - MR.cnt l (15 * i) = MR.rk false l (15 * i) := rfl
    refine gox ?_
    refine hm.does hL (gox ?_)
    refine hsel.does hL (gox ?_)
    refine regD 7 (by kernel_rfl) (by kernel_rfl) (gox ?_)
    refine ⟨_, hp.does hL ⟨rfl, rfl⟩, ?_⟩
    refine gox ?_
    trivial
  · have hrk : MR.cnt l (15 * i) = MR.rk true l (15 * i) := rfl
    have hwt : MK.bk l i = wk true l i := rfl
    refine gox ?_
    refine hsel.does hL (gox ?_)
    refine regD 7 (by kernel_rfl) (by kernel_rfl) (gox ?_)
    refine ⟨_, hp.does hL ⟨rfl, rfl⟩, ?_⟩
    refine gox ?_
    trivial
theorem b_walkS (hT : ∀ n c, L n c → TabL n c) {A : Amb} (hL : L A.n A.c) (l : List Bool) (hl : l.length ≤ 1000000) (b : Bool) (k p g : Nat) (hsel : MR.Sel b l k p) (hg : 120 * g ≤ p) {H : Heap} {b1 b2 b3 : Nat} {K : V → Heap → Prop} (h1 : H[b1]? = some ⟨4, 0, [.b b], true⟩) (h2 : H[b2]? = some ⟨3, 0, [.i .i64 k], true⟩) (h3 : H[b3]? = some ⟨3, 0, [.i .i64 (0 : Nat)], true⟩) (hn1 : b1 ≠ b3) (hn2 : b2 ≠ b3)
    (hK : ∀ k0, K (.tup []) (H.set b3 ⟨3, 0, [.i .i64 p], true⟩ ++ [k0])) :
    Does Tryz.prog A 133 [rrrV l, .i .i64 (8 * g : Nat), .f (.func 134) [] [.p b1 0 0, .p b2 0 0, .p b3 0 0]] H K := by
  refine does_of_W Tryz.func133 rfl rfl (by kernel_rfl) [] ?_
  have hnb : (l.length + 14) / 15 = MK.nb l := rfl
  have hng : (MK.nb l + 7) / 8 = MK.ng l := by have := hsel.lt; unfold MK.ng; omega
  have hplt := hsel.lt
  have hb1 : b1 < H.length := (List.getElem?_eq_some_iff.1 h1).1
  have hb2 : b2 < H.length := (List.getElem?_eq_some_iff.1 h2).1
  have hb3 : b3 < H.length := (List.getElem?_eq_some_iff.1 h3).1
  have hs1 := fun k' => (List.getElem?_set_ne (Ne.symm hn1) (l := H) (a := k')).trans h1
  have hs2 := fun k' => (List.getElem?_set_ne (Ne.symm hn2) (l := H) (a := k')).trans h2
  have hs3 := fun k' => getSet (k' := k') h3
  have ho := onesG_getD l (g := g) (k := MK.ng l) (by omega)
  have hp := pointsG_getD l (g := g) (k := MK.ng l) (by omega)
  have hol := onesG_length l (MK.ng l)
  have hpl := pointsG_length l (MK.ng l)
  have hget := fun i hi => b_rget (L := L) l hl i hi
  have hpn := MK.pts_le l (MK.nb l)
  have hgg : 8 * g / 8 = g := by omega
  have hcmp := sel_cmp hsel
  have hkl := MR.sel_lt hsel
  have hkr := MR.rk_le b l l.length
  unfold rrrV rrrC at *
  unfold Tryz.f133
  refine gox ?_
  refine regD 12 (by kernel_rfl) (by kernel_rfl) (gox ?_)
  refine loop_ (fun x : Nat × Nat => ⟨[(2, .f (.func 134) [] [.p b1 0 0, .p b2 0 0, .p b3 0 0]), (3, .p H.length 0 0), (7, .i .i64 (MR.cnt l (15 * x.1) : Nat)), (8, .i .i64 (MK.pts l x.1 : Nat)), (9, .i .i64 x.1)], H.set b3 ⟨3, 0, [.i .i64 x.2], true⟩ ++ [⟨41, 0, rrrC l, true⟩]⟩)
    (fun x => 15 * x.1 ≤ p) (fun x => p + 1 - 15 * x.1) (8 * g, 0) (show 15 * (8 * g) ≤ p by omega) (le_slots' ?_ (by rw [setSelf h3]; rfl) (go ?_)) fun ⟨i, o⟩ hi => ?_
  · simp
  · omega
  simp only at hi
  have hil : i < MK.nb l := by omega
  have hpi := MK.pts_mono l (show i ≤ MK.nb l by omega)
  have hcn := MR.cnt_le l (15 * i)
  have hbl := MK.bk_lt l i
  unfold rrrC
  refine go ?_
  refine (hget i hil).does hL (gox ?_)
  refine b_visitS hT hL l b i k (by omega) ((hcmp _).2 hi) (by omega) ((List.getElem?_append_left (by rw [List.length_set]; exact hb1)).trans (hs1 _)) ((List.getElem?_append_left (by rw [List.length_set]; exact hb2)).trans (hs2 _)) ((List.getElem?_append_left (by rw [List.length_set]; exact hb3)).trans (hs3 _)) hn1 hn2 (go ?_)
  have hp15 : MP.pop 64 (MK.bk l i) = MK.cl l i := by have := pop_low 15 (MK.bk l i) (by decide); rw [Nat.mod_eq_of_lt hbl] at this; exact this
  have hcx := MK.cnt_next l i
  have hps := MK.pts_succ l i
  have hc15 := MK.cl_le l i
  have hw15 : MK.wdt 15 (MK.cl l i) ≤ 15 := MK.wdt_le
  have hcn2 := hcmp (15 * (i + 1))
  refine ⟨fun h3 => gox ?_, fun h3 => ?_⟩
  · have hpp := b_pop (L := L) (MK.bk l i) (by omega)
    rw [hp15] at hpp
    refine hpp.does hL (go ?_)
    have := hcn2.1 h3
    refine ⟨(i + 1, 15 * i + selW (wk b l i) (k - MR.rk b l (15 * i))), by simp only; omega, by simp only; omega, le_slots' (by simp) rfl (go ?_)⟩
    omega
  · have hpe : p / 15 = i := by have : ¬ 15 * (i + 1) ≤ p := fun h => h3 (hcn2.2 h); omega
    obtain ⟨s1, s2, s3⟩ := sel_wk hsel hpe
    have hr : 15 * i + selW (wk b l i) (k - MR.rk b l (15 * i)) = p := by
      unfold selW
      rw [if_pos s2, s3]; omega
    rw [hr]
    refine go ?_
    exact hK _
theorem b_rselect (hT : ∀ n c, L n c → TabL n c) (l : List Bool) (hl : l.length ≤ 1000000) (b : Bool) (k p : Nat) (hs : MR.Sel b l k p) : Pure Tryz.prog L 80 [rrrV l, .b b, .i .i64 k] (.tup [.i .i64 p, .i .i64 0]) := by
  refine pure_of_W Tryz.func80 rfl rfl (by kernel_rfl) [] (by unfold rrrV rrrC; exact closed) closed fun A hL => ?_
  have hck := b_rcheck (L := L) l hl
  have ho := fun i hi => b_rahead (L := L) l hl b i hi
  have hw := fun {H : Heap} {b1 b2 b3 : Nat} {K : V → Heap → Prop} g hg => b_walkS hT hL l hl b k p g (H := H) (b1 := b1) (b2 := b2) (b3 := b3) (K := K) hs hg
  have hnb : (l.length + 14) / 15 = MK.nb l := rfl
  have hng : (MK.nb l + 7) / 8 = MK.ng l := by have := hs.lt; unfold MK.ng; omega
  have hplt := hs.lt
  have hcmp := sel_cmp hs
  have hkl := MR.sel_lt hs
  have hkr := MR.rk_le b l l.length
  unfold rrrV rrrC at *
  unfold Tryz.f80
  refine go ?_
  refine hck.does hL (go ?_)
  refine regD 12 (by kernel_rfl) (by kernel_rfl) (go ?_)
  refine ⟨_, (ho l.length (Nat.le_refl _)).does hL ⟨rfl, rfl⟩, ?_⟩
  refine go ?_
  refine loop_ (fun g : Nat => ⟨[(3, .p 0 0 0), (4, .p 1 0 0), (5, .p 2 0 0), (8, .i .i64 g)], _⟩) (fun g => 120 * g ≤ p) (fun g => p + 1 - 120 * g) 0 (Nat.zero_le _) (le_slots (Nat.zero_le _) (go ?_)) fun g hg => ?_
  · trivial
  have hcg := hcmp (120 * (g + 1))
  refine go ?_
  by_cases hgl : g + 1 < MK.ng l
  · have hge : (g + 1) * 8 * 15 = 120 * (g + 1) := by omega
    have hog := ho (120 * (g + 1)) (by omega)
    refine regD 17 (by kernel_rfl) (by kernel_rfl) (gox ?_)
    refine ⟨_, hog.does hL ⟨rfl, rfl⟩, ?_⟩
    refine go ?_
    refine ⟨fun h3 => go ?_, fun h3 => go ?_⟩
    · have := hcg.1 h3
      exact ⟨g + 1, by omega, by omega, le_slots (Nat.zero_le _) (go trivial)⟩
    · have hg8 : g * 8 = 8 * g := Nat.mul_comm _ _
      refine gox ?_
      refine hw g hg rfl rfl rfl (by decide) (by decide) fun k0 => go ?_
      exact fin_
  · refine regD 17 (by kernel_rfl) (by kernel_rfl) (go ?_)
    have hg8 : g * 8 = 8 * g := Nat.mul_comm _ _
    refine gox ?_
    refine hw g hg rfl rfl rfl (by decide) (by decide) fun k0 => go ?_
    exact fin_
end Go.Proofs.E
end
/- Places of ones, apart in low and high bits; in plain Lean. Of no function of the program. -/
section
set_option linter.unusedVariables false
set_option linter.unusedSimpArgs false
set_option linter.unusedSectionVars false
namespace Go.Proofs.MF
open Go.Proofs.MV Go.Proofs.MP Go.Proofs.MR
set_option linter.unusedVariables false
/-- The places of ones below n. -/
def onesTo (l : List Bool) : Nat → List Nat
  | 0 => []
  | n + 1 => onesTo l n ++ if bt l n then [n] else []
theorem onesTo_length (l : List Bool) : ∀ n, (onesTo l n).length = cnt l n
  | 0 => rfl
  | n + 1 => by
    show (onesTo l n ++ _).length = cnt l n + (bt l n).toNat
    rw [List.length_append, onesTo_length l n]
    cases bt l n <;> rfl
def pl (l : List Bool) (i : Nat) : Nat := (onesTo l l.length).getD i 0
theorem onesTo_at (l : List Bool) : ∀ n i, i < cnt l n → (onesTo l n).getD i 0 < n ∧ bt l ((onesTo l n).getD i 0) = true ∧ cnt l ((onesTo l n).getD i 0) = i
  | 0, i, h => by simp [cnt] at h
  | n + 1, i, h => by
    have hl := onesTo_length l n
    show (onesTo l n ++ _).getD i 0 < n + 1 ∧ bt l ((onesTo l n ++ _).getD i 0) = true ∧ cnt l ((onesTo l n ++ _).getD i 0) = i
    simp only [List.getD_eq_getElem?_getD]
    by_cases hi : i < cnt l n
    · have ih := onesTo_at l n i hi
      simp only [List.getD_eq_getElem?_getD] at ih
      rw [List.getElem?_append_left (by omega)]
      exact ⟨by omega, ih.2⟩
    · have h2 : i < cnt l n + (bt l n).toNat := h
      cases hb : bt l n
      · rw [hb] at h2; simp at h2; omega
      · rw [hb] at h2; simp at h2
        obtain rfl : i = cnt l n := by omega
        rw [List.getElem?_append_right (by omega), hl, Nat.sub_self]
        exact ⟨Nat.lt_succ_self n, hb, rfl⟩
theorem pl_sel (l : List Bool) (i : Nat) (h : i < cnt l l.length) : Sel true l i (pl l i) :=
  have := onesTo_at l l.length i h
  ⟨this.1, this.2.1, this.2.2⟩
theorem pl_of (l : List Bool) {i p : Nat} (h : bt l p = true) (hc : cnt l p = i) (hp : p < l.length) : pl l i = p := by
  have h1 : i < cnt l l.length := by
    have := cnt_mono l (show p + 1 ≤ l.length from hp)
    have e : cnt l (p + 1) = cnt l p + (bt l p).toNat := rfl
    rw [e, h] at this; simp at this; omega
  have h2 := pl_sel l i h1
  exact rk_uniq true l h2.bit h (by rw [h2.rank]; exact hc.symm)
theorem pl_lt (l : List Bool) {i j : Nat} (h : i < j) (hj : j < cnt l l.length) : pl l i < pl l j := by
  have h1 := pl_sel l i (by omega); have h2 := pl_sel l j hj
  have h3 : cnt l (pl l i) = i := h1.rank
  have h4 : cnt l (pl l j) = j := h2.rank
  rcases Nat.lt_or_ge (pl l i) (pl l j) with q | q
  · exact q
  · have := cnt_mono l q; omega
/-- The high bits, i of them put; the places' low bits. w: how many bits are low. -/
def hiTo (l : List Bool) (w i : Nat) : List Bool := (List.range (cnt l l.length + l.length / 2 ^ w + 1)).map fun x => decide (∃ j, j < i ∧ pl l j / 2 ^ w + j = x)
def hi (l : List Bool) (w : Nat) : List Bool := hiTo l w (cnt l l.length)
def lo (l : List Bool) (w : Nat) : List Nat := if w = 0 then [] else (List.range (cnt l l.length)).map fun i => pl l i % 2 ^ w
theorem hiTo_length (l : List Bool) (w i : Nat) : (hiTo l w i).length = cnt l l.length + l.length / 2 ^ w + 1 := by simp [hiTo]
theorem hiTo_bt (l : List Bool) (w i x : Nat) (hi : i ≤ cnt l l.length) : bt (hiTo l w i) x = decide (∃ j, j < i ∧ pl l j / 2 ^ w + j = x) := by
  unfold bt hiTo
  rw [List.getD_eq_getElem?_getD, List.getElem?_map]
  by_cases h : x < cnt l l.length + l.length / 2 ^ w + 1
  · rw [List.getElem?_range h]; rfl
  · rw [List.getElem?_eq_none (by simp; omega)]
    symm
    apply decide_eq_false
    rintro ⟨j, hj, e⟩
    have h1 := (pl_sel l j (by omega)).lt
    have := Nat.div_le_div_right (c := 2 ^ w) (Nat.le_of_lt h1)
    omega
theorem place_lt (l : List Bool) (w : Nat) {i j : Nat} (h : i < j) (hj : j < cnt l l.length) : pl l i / 2 ^ w + i < pl l j / 2 ^ w + j := by
  have := Nat.div_le_div_right (c := 2 ^ w) (Nat.le_of_lt (pl_lt l h hj))
  omega
theorem place_fits (l : List Bool) (w : Nat) {i : Nat} (h : i < cnt l l.length) : pl l i / 2 ^ w + i < cnt l l.length + l.length / 2 ^ w + 1 := by
  have h1 := (pl_sel l i h).lt
  have := Nat.div_le_div_right (c := 2 ^ w) (Nat.le_of_lt h1)
  omega
theorem hiTo_succ (l : List Bool) (w i : Nat) (h : i < cnt l l.length) : hiTo l w (i + 1) = (hiTo l w i).set (pl l i / 2 ^ w + i) true := by
  apply bt_ext (by simp [hiTo_length])
  intro x hx
  rw [hiTo_bt l w (i + 1) x h]
  have e : bt ((hiTo l w i).set (pl l i / 2 ^ w + i) true) x = if pl l i / 2 ^ w + i = x then true else bt (hiTo l w i) x := by
    unfold bt
    simp only [List.getD_eq_getElem?_getD, List.getElem?_set, hiTo_length]
    by_cases q : pl l i / 2 ^ w + i = x
    · rw [if_pos q, if_pos (by have := place_fits l w h; omega), if_pos q]; rfl
    · rw [if_neg q, if_neg q]
  rw [e, hiTo_bt l w i x (by omega)]
  by_cases q : pl l i / 2 ^ w + i = x
  · rw [if_pos q]; exact decide_eq_true ⟨i, Nat.lt_succ_self i, q⟩
  · rw [if_neg q, decide_eq_decide]
    constructor
    · rintro ⟨j, hj, e2⟩
      by_cases ej : j = i
      · subst ej; exact absurd e2 q
      · exact ⟨j, by omega, e2⟩
    · rintro ⟨j, hj, e⟩
      exact ⟨j, by omega, e⟩
/-- How many ones of the high bits stand ahead of a place. -/
theorem hi_cnt (l : List Bool) (w : Nat) : ∀ x i, i ≤ cnt l l.length → (∀ j, j < i → pl l j / 2 ^ w + j < x) → (i < cnt l l.length → x ≤ pl l i / 2 ^ w + i) → cnt (hi l w) x = i
  | 0, i, h, h1, h2 => by
    cases i with
    | zero => rfl
    | succ i => exact absurd (h1 i (by omega)) (Nat.not_lt_zero _)
  | x + 1, i, h, h1, h2 => by
    show cnt (hi l w) x + (bt (hi l w) x).toNat = i
    have hb := hiTo_bt l w _ x (Nat.le_refl (cnt l l.length))
    change bt (hi l w) x = _ at hb
    by_cases q : ∃ j, j < cnt l l.length ∧ pl l j / 2 ^ w + j = x
    · obtain ⟨j, hj, e⟩ := q
      have hji : j < i := by
        rcases Nat.lt_or_ge j i with z | z
        · exact z
        · exfalso
          by_cases ei : i = j
          · subst ei; have := h2 hj; omega
          · have := place_lt l w (show i < j by omega) hj
            have := h2 (by omega); omega
      have hji2 : j = i - 1 := by
        rcases Nat.lt_or_ge j (i - 1) with z | z
        · have := place_lt l w (show j < i - 1 by omega) (by omega)
          have := h1 (i - 1) (by omega); omega
        · omega
      rw [hb, decide_eq_true ⟨j, hj, e⟩, hi_cnt l w x (i - 1) (by omega) (fun k hk => by
        have := place_lt l w (show k < j by omega) hj; omega) (fun hk => by rw [← hji2]; omega)]
      simp; omega
    · rw [hb, decide_eq_false q, hi_cnt l w x i h (fun k hk => by
        have := h1 k hk
        have : pl l k / 2 ^ w + k ≠ x := fun e => q ⟨k, by omega, e⟩
        omega) (fun hk => by have := h2 hk; omega)]
      rfl
theorem hi_sel (l : List Bool) (w i : Nat) (h : i < cnt l l.length) : Sel true (hi l w) i (pl l i / 2 ^ w + i) := by
  refine ⟨by have := place_fits l w h; unfold hi; rw [hiTo_length]; exact this, ?_, ?_⟩
  · unfold hi; rw [hiTo_bt _ _ _ _ (Nat.le_refl _)]; exact decide_eq_true ⟨i, h, rfl⟩
  · exact hi_cnt l w _ i (by omega) (fun j hj => place_lt l w hj h) (fun _ => Nat.le_refl _)
theorem hi_all (l : List Bool) (w : Nat) : cnt (hi l w) (hi l w).length = cnt l l.length := by
  refine hi_cnt l w _ _ (Nat.le_refl _) (fun j hj => ?_) (fun h => absurd h (Nat.lt_irrefl _))
  have := place_fits l w hj
  unfold hi; rw [hiTo_length]; exact this
end Go.Proofs.MF
end
/- The program: rows of bits by the places of ones: along the ones. -/
section
set_option linter.unusedVariables false
set_option linter.unusedSimpArgs false
set_option linter.unusedSectionVars false
namespace Go.Proofs.E
open Go Go.Proofs.MV Go.Proofs.MI
set_option linter.unusedVariables false
set_option maxRecDepth 10000
variable {L : Nat → (Nat → Option Obj) → Prop}
theorem clr_zero {x : Nat} {r : Nat} (hx : x < 2 ^ 64) (hr : r = MP.pop 64 x) : MP.clr x r = 0 := by
  apply Nat.eq_of_testBit_eq
  intro i
  rw [Nat.zero_testBit]
  by_cases hi : i ≤ 64
  · rw [(MP.clr_all x r (by omega)).1 i hi]
    by_cases h64 : i < 64
    · by_cases hb : x.testBit i = true
      · have := MP.pop_mono x (show i + 1 ≤ 64 by omega)
        rw [MP.pop_succ, hb] at this
        simp at this
        simp; intro; omega
      · simp [hb]
    · have : i = 64 := by omega
      subst this
      rw [Nat.testBit_lt_two_pow hx]; simp
  · exact Nat.testBit_lt_two_pow (Nat.lt_of_le_of_lt (MP.clr_le x r) (Nat.lt_of_lt_of_le hx (Nat.pow_le_pow_right (by decide) (by omega))))
theorem pl_word {l : List Bool} {j r : Nat} (hr : r < MP.pop 64 (wN l j)) : MF.pl l (MR.cnt l (64 * j) + r) = 64 * j + MP.sel (wN l j) r ∧ 64 * j + MP.sel (wN l j) r < l.length ∧ MR.cnt l (64 * j) + r < MR.cnt l l.length := by
  obtain ⟨_, s2, s3, s4⟩ := MP.sel_spec (wN l j) r (wN_lt l j) hr
  have hb : bt l (64 * j + MP.sel (wN l j) r) = true := by rw [wN_bit] at s3; simp at s3; exact s3.2
  have hc : MR.cnt l (64 * j + MP.sel (wN l j) r) = MR.cnt l (64 * j) + r := by rw [MR.cnt_word l j _ (by omega), s4]
  have hp : 64 * j + MP.sel (wN l j) r < l.length := Nat.lt_of_not_le fun h => by rw [bt_out l _ h] at hb; cases hb
  refine ⟨MF.pl_of l hb hc hp, hp, ?_⟩
  have := MR.cnt_mono l (show 64 * j + MP.sel (wN l j) r + 1 ≤ l.length from hp)
  rw [cnt_t hb, hc] at this
  omega
/-- A function goes along the ones. -/
theorem b_each (hT : ∀ n c, L n c → TabL n c) {A : Amb} (hL : L A.n A.c) (l : List Bool) (hl : l.length ≤ 1048576) {g : FuncId} {ca : List V} (S : Nat → Heap) {kb : Nat} (hle : ∀ i, (S 0).length ≤ (S i).length)
    (hbox : ∀ i, (S i)[kb]? = some ⟨33, 0, [.i .i64 (l.length : Nat), .sl false (wc l) (nums .u64 (wn l (wc l)))], true⟩)
    (hv : ∀ i, i < MR.cnt l l.length → ∀ K : V → Heap → Prop, K (.b true) (S (i + 1)) → Does Tryz.prog A g (.i .i64 (MF.pl l i : Nat) :: ca) (S i) K) {K : V → Heap → Prop} (hK : K (.tup []) (S (MR.cnt l l.length))) :
    Does Tryz.prog A 149 [.f (.func g) [] ca, .p kb 0 0] (S 0) K := by
  refine does_of_W Tryz.func149 rfl rfl (by kernel_rfl) [] ?_
  have hc : (l.length + 63) / 64 = wc l := rfl
  have hw := wn_length l (wc l)
  have hb0 := hbox 0
  unfold Tryz.f149
  refine gox ?_
  refine loop_ (fun j : Nat => ⟨[(0, .f (.func g) [] ca), (6, .sl false (wc l) (nums .u64 (wn l (wc l)))), (7, .i .i64 (wc l : Nat)), (8, .i .i64 j)], S (MR.cnt l (64 * j))⟩) (fun j => j ≤ wc l) (fun j => wc l - j) 0 (Nat.zero_le _) (le_slots' (H := S 0) (Nat.le_refl _) rfl (go ?_)) fun j hj => go ?_
  · trivial
  refine ⟨fun h1 => go ?_, fun h1 => go ?_⟩
  · have hwg := wn_getD l (wc l) j h1
    have hpl := MB.pop_le (wN l j) 64
    rw [hwg]
    refine loop_ (fun r : Nat => ⟨[(0, .f (.func g) [] ca), (3, .i .i64 j), (4, .i .u64 (MP.clr (wN l j) r : Nat)), (6, .sl false (wc l) (nums .u64 (wn l (wc l)))), (7, .i .i64 (wc l : Nat)), (8, .i .i64 j)], S (MR.cnt l (64 * j) + r)⟩) (fun r => r ≤ MP.pop 64 (wN l j)) (fun r => MP.pop 64 (wN l j) - r) 0 (Nat.zero_le _) (le_slots' (H := S (MR.cnt l (64 * j))) (hle _) rfl (go ?_)) fun r hr => go ?_
    · rfl
    have hcl := MP.clr_le (wN l j) r
    have hwl := wN_lt l j
    refine ⟨fun h2 => go ?_, fun h2 => go ?_⟩
    · have hrl : r = MP.pop 64 (wN l j) := by
        rcases Nat.lt_or_ge r (MP.pop 64 (wN l j)) with h | h
        · exact absurd (by simpa using h2) (MP.sel_spec (wN l j) r hwl h).1
        · omega
      exact ⟨j + 1, by omega, by omega, le_slots' (hle _) (by rw [cnt_words, hrl]) (go trivial)⟩
    · have hrl : r < MP.pop 64 (wN l j) := Nat.lt_of_le_of_ne hr fun e => h2 (by rw [clr_zero hwl e])
      obtain ⟨p1, p2, p3⟩ := pl_word hrl
      have hpc := (MP.clr_all (wN l j) r (by omega)).2 64 (Nat.le_refl _)
      have hsel := b_select hT (L := L) (MP.clr (wN l j) r) 0 (by omega) (by omega)
      have hs0 : MP.sel (MP.clr (wN l j) r) 0 = MP.sel (wN l j) r := by unfold MP.sel; rw [show ∀ y, MP.clr y 0 = y from fun y => rfl]
      rw [hs0, c0] at hsel
      have hc1 : (MP.clr (wN l j) r &&& (MP.clr (wN l j) r - 1)) = MP.clr (wN l j) (r + 1) := rfl
      have hne : MP.clr (wN l j) r ≠ 0 := (MP.sel_spec (wN l j) r hwl hrl).1
      refine hsel.does hL (go ?_)
      rw [show j * 64 + MP.sel (wN l j) r = MF.pl l (MR.cnt l (64 * j) + r) by omega]
      refine hv _ p3 _ (gox ?_)
      exact ⟨r + 1, by omega, by omega, le_slots' (hle _) rfl (go trivial)⟩
  · obtain rfl : j = wc l := by omega
    rw [MR.cnt_out l (64 * wc l) (by omega)]
    exact hK
end Go.Proofs.E
end
/- The program: rows of bits by the places of ones: building. -/
section
set_option linter.unusedVariables false
set_option linter.unusedSimpArgs false
set_option linter.unusedSectionVars false
namespace Go.Proofs.E
open Go Go.Proofs.MV Go.Proofs.MI
set_option linter.unusedVariables false
set_option maxRecDepth 10000
variable {L : Nat → (Nat → Option Obj) → Prop}
def fw (n m : Nat) : Nat := if m = 0 then 0 else Lib.bitLen (n / m) - 1
theorem fw_le {n m : Nat} (h : n < 2 ^ 20) : fw n m ≤ 19 := by
  unfold fw
  split
  · omega
  · have := MI.bitLen_le 64 (n / m) 20 (Nat.lt_of_le_of_lt (Nat.div_le_self _ _) h)
    have e : Lib.bitLen (n / m) = Lib.bitLenAux 64 (n / m) := rfl
    omega
theorem b_fwidth (n m : Nat) (hn : n < 2 ^ 20) (hm : m ≤ n) : Pure Tryz.prog L 96 [.i .i64 n, .i .i64 m] (.i .i64 (fw n m : Nat)) := by
  refine pure_of_W Tryz.func96 rfl rfl (by kernel_rfl) [] closed closed fun A hL => ?_
  unfold fw Tryz.f96
  by_cases h1 : m = 0
  · refine go ?_
    exact fin_
  · have hle : n / m ≤ n := Nat.div_le_self _ _
    have h0 : 0 < n / m := Nat.div_pos hm (by omega)
    obtain ⟨d, hd⟩ : ∃ d, n / m = d := ⟨_, rfl⟩
    rw [hd] at hle h0
    have e : Lib.bitLen d = Lib.bitLenAux 64 d := rfl
    have hb : 1 ≤ Lib.bitLen d := by
      rw [e]
      obtain ⟨_, h2, _⟩ := Lib.bitLenAux_bounds 64 d (by omega) (by omega)
      rcases Nat.eq_zero_or_pos (Lib.bitLenAux 64 d) with h | h
      · rw [h] at h2; simp at h2; omega
      · exact h
    have hb2 := MI.bitLen_le 64 d 20 (by omega)
    rw [← e] at hb2
    clear e
    refine gox ?_
    refine (b_len d (by omega)).does hL (go ?_)
    exact fin_
def loTo (l : List Bool) (w i : Nat) : List Nat := (List.range i).map fun j => MF.pl l j % 2 ^ w
theorem loTo_length (l : List Bool) (w i : Nat) : (loTo l w i).length = i := by simp [loTo]
theorem loTo_snoc (l : List Bool) (w i : Nat) : loTo l w i ++ [MF.pl l i % 2 ^ w] = loTo l w (i + 1) := MK.range_snoc i
def hn (l : List Bool) (w : Nat) : Nat := MR.cnt l l.length + l.length / 2 ^ w + 1
/-- The heap on the way. -/
def FB (l : List Bool) (w i : Nat) (low : V) : Heap :=
  [⟨33, 0, [.i .i64 (l.length : Nat), .sl false (wc l) (nums .u64 (wn l (wc l)))], true⟩, ⟨43, 0, [.i .i64 0, .i .i64 0, .i .i64 0, .i .i64 0, .i .i64 0, .ns, .i .i64 0, .ns], true⟩,
   ⟨43, 0, [.i .i64 (l.length : Nat), .i .i64 (MR.cnt l l.length : Nat), .i .i64 0, .i .i64 0, .i .i64 0, .ns, .i .i64 0, .ns], true⟩, ⟨3, 0, [.i .i64 w], true⟩, ⟨4, 1, bls (MF.hiTo l w i), true⟩, ⟨66, 1, [.o 4 1 0 (hn l w)], true⟩, ⟨31, 0, [low], true⟩, ⟨3, 0, [.i .i64 i], true⟩,
   ⟨33, 0, [.i .i64 (l.length : Nat), .sl false (wc l) (nums .u64 (wn l (wc l)))], true⟩]
def FP (l : List Bool) (w : Nat) : Nat → Heap
  | 0 => FB l w 0 .ns
  | i + 1 => FB l w (i + 1) (.o 9 i 0 (i + 1)) ++ [⟨95, i, nums .u64 (loTo l w (i + 1)), true⟩]
theorem b_put0 {A : Amb} (hL : L A.n A.c) (l : List Bool) (hl : l.length ≤ 100000) (i : Nat) (hi : i < MR.cnt l l.length) {K : V → Heap → Prop} (hK : K (.b true) (FB l 0 (i + 1) .ns)) :
    Does Tryz.prog A 98 [.i .i64 (MF.pl l i : Nat), .p 5 1 0, .p 3 0 0, .p 7 0 0, .p 6 0 0] (FB l 0 i .ns) K := by
  refine does_of_W Tryz.func98 rfl rfl (by kernel_rfl) [] ?_
  have hlt := (MF.onesTo_at l l.length i hi).1
  have hpl : MF.pl l i < l.length := hlt
  have hfit := MF.place_fits l 0 hi
  have hln := MF.hiTo_length l 0 i
  have hsu := MF.hiTo_succ l 0 i hi
  have hcl := MR.cnt_le l l.length
  have hhn : hn l 0 = MR.cnt l l.length + l.length / 2 ^ 0 + 1 := rfl
  rw [Nat.pow_zero, Nat.div_one] at hfit hsu hln
  rw [Nat.pow_zero, Nat.div_one] at hhn
  unfold FB at *
  unfold Tryz.f98
  refine go ?_
  refine regD 7 (by kernel_rfl) (by kernel_rfl) (go ?_)
  rw [← hsu]
  exact hK
theorem b_put1 {A : Amb} (hL : L A.n A.c) (l : List Bool) (hl : l.length ≤ 100000) (w : Nat) (h0 : 0 < w) (hw : w ≤ 20) (i : Nat) (hi : i < MR.cnt l l.length) {K : V → Heap → Prop} (hK : K (.b true) (FP l w (i + 1))) :
    Does Tryz.prog A 98 [.i .i64 (MF.pl l i : Nat), .p 5 1 0, .p 3 0 0, .p 7 0 0, .p 6 0 0] (FP l w i) K := by
  refine does_of_W Tryz.func98 rfl rfl (by kernel_rfl) [] ?_
  have hpl : MF.pl l i < l.length := (MF.onesTo_at l l.length i hi).1
  have hdl : MF.pl l i / 2 ^ w ≤ MF.pl l i := Nat.div_le_self _ _
  have hfit := MF.place_fits l w hi
  have hln := MF.hiTo_length l w i
  have hsu := MF.hiTo_succ l w i hi
  have hcl := MR.cnt_le l l.length
  have hhn : hn l w = MR.cnt l l.length + l.length / 2 ^ w + 1 := rfl
  have hnd : l.length / 2 ^ w ≤ l.length := Nat.div_le_self _ _
  have hmk := b_mask (L := L) w (by omega)
  have hml : 2 ^ w - 1 < 18446744073709551616 := Nat.lt_of_lt_of_le (Nat.sub_lt (Nat.two_pow_pos w) (by decide)) (show 2 ^ w ≤ 2 ^ 64 from Nat.pow_le_pow_right (by decide) (by omega))
  have hand : (MF.pl l i &&& (2 ^ w - 1)) = MF.pl l i % 2 ^ w := Nat.and_two_pow_sub_one_eq_mod _ w
  have hlo := loTo_snoc l w i
  have hll := loTo_length l w i
  rw [← hhn] at hln hfit
  obtain ⟨d, hd⟩ : ∃ d, MF.pl l i / 2 ^ w = d := ⟨_, rfl⟩
  rw [hd] at hfit hsu hdl
  have hhl : hn l w ≤ 200001 := by omega
  clear hhn hnd
  cases i with
  | zero =>
    simp only [FP, FB] at hK ⊢
    rw [hsu, ← hlo] at hK
    unfold Tryz.f98
    refine gox ?_
    refine regD 7 (by kernel_rfl) (by kernel_rfl) (gox ?_)
    refine regD 7 (by kernel_rfl) (by kernel_rfl) (gox ?_)
    refine ⟨_, hmk.does hL ⟨rfl, rfl⟩, ?_⟩
    refine gox ?_
    trivial
  | succ i =>
    simp only [FP, FB] at hK ⊢
    rw [hsu] at hK
    unfold Tryz.f98
    refine gox ?_
    refine regD 7 (by kernel_rfl) (by kernel_rfl) (gox ?_)
    refine regD 7 (by kernel_rfl) (by kernel_rfl) (gox ?_)
    refine ⟨_, hmk.does hL ⟨rfl, rfl⟩, ?_⟩
    refine gox ?_
    trivial
theorem b_eachOne {A : Amb} (hL : L A.n A.c) (l : List Bool) {H : Heap} {K : V → Heap → Prop} (hK : K (.f (.func 149) [] [.p H.length 0 0]) (H ++ [⟨33, 0, [.i .i64 (l.length : Nat), .sl false (wc l) (nums .u64 (wn l (wc l)))], true⟩])) :
    Does Tryz.prog A 97 [.agg [.i .i64 (l.length : Nat), .sl false (wc l) (nums .u64 (wn l (wc l)))]] H K := by
  refine does_of_W Tryz.func97 rfl rfl (by kernel_rfl) [] ?_
  unfold Tryz.f97
  refine gox ?_
  trivial
def mF (l : List Bool) : Nat := MR.cnt l l.length
def wF (l : List Bool) : Nat := fw l.length (mF l)
def loF (l : List Bool) : List Nat := if wF l = 0 then [] else loTo l (wF l) (mF l)
def hiF (l : List Bool) : List Bool := MF.hi l (wF l)
def dF (l : List Bool) : Nat := max 1 (wF l)
def fanoC (l : List Bool) : List V := [.i .i64 (l.length : Nat), .i .i64 (MR.cnt l l.length : Nat), .i .i64 ((loF l).length : Nat), .i .i64 (dF l : Nat), .i .i64 ((loF l).length * dF l : Nat), .sl false (wc (flat (dF l) (loF l))) (nums .u64 (wn (flat (dF l) (loF l)) (wc (flat (dF l) (loF l))))),
  .i .i64 ((hiF l).length : Nat), .sl false (wc (hiF l)) (nums .u64 (wn (hiF l) (wc (hiF l))))]
theorem hiF_length (l : List Bool) : (hiF l).length = hn l (wF l) := MF.hiTo_length _ _ _
def fanoV (l : List Bool) : V := .agg (fanoC l)
theorem lo_lt (l : List Bool) : ∀ j, j < (loF l).length → (loF l).getD j 0 < 2 ^ dF l := fun j hj => by
  unfold loF at *
  split at hj
  · simp at hj
  · rename_i h
    rw [if_neg h]
    rw [loTo_length] at hj
    rw [show (loTo l (wF l) (mF l)).getD j 0 = MF.pl l j % 2 ^ wF l from MB.natmap_getD hj]
    exact Nat.lt_of_lt_of_le (Nat.mod_lt _ (Nat.two_pow_pos _)) (Nat.pow_le_pow_right (by decide) (by unfold dF; omega))
theorem loF_le (l : List Bool) : (loF l).length ≤ mF l := by unfold loF; split <;> simp [loTo_length]
theorem b_low (l : List Bool) (hl : l.length ≤ 40000) : Pure Tryz.prog L 94 [.i .i64 (dF l : Nat), .sl false (loF l).length (nums .u64 (loF l))] (.tup [.agg [.i .i64 ((loF l).length : Nat), .i .i64 (dF l : Nat), .i .i64 ((loF l).length * dF l : Nat), .sl false (wc (flat (dF l) (loF l))) (nums .u64 (wn (flat (dF l) (loF l)) (wc (flat (dF l) (loF l)))))], .i .i64 0]) := by
  have h1 := loF_le l
  have h2 : mF l ≤ l.length := MR.cnt_le l l.length
  have h3 : wF l ≤ 19 := fw_le (by omega)
  have h4 : 1 ≤ dF l ∧ dF l ≤ 19 := by unfold dF; omega
  have h5 : (loF l).length * dF l ≤ 40000 * 19 := Nat.mul_le_mul (by omega) h4.2
  exact b_make (L := L) (dF l) (loF l) (by omega) (by omega) (by omega) (lo_lt l) (wid_le (dF l) h4.1 (loF l) _ (lo_lt l))
theorem b_high (l : List Bool) (hl : l.length ≤ 40000) : Pure Tryz.prog L 28 [.sl false (hn l (wF l)) (bls (hiF l))] (.tup [.agg [.i .i64 (hn l (wF l) : Nat), .sl false (wc (hiF l)) (nums .u64 (wn (hiF l) (wc (hiF l))))], .i .i64 0]) := by
  have h1 : (hiF l).length = hn l (wF l) := MF.hiTo_length _ _ _
  have h2 : MR.cnt l l.length ≤ l.length := MR.cnt_le l l.length
  have h3 : l.length / 2 ^ wF l ≤ l.length := Nat.div_le_self _ _
  have := b_from (L := L) (hiF l) (by rw [h1]; unfold hn; omega)
  unfold bitsV at this
  rw [h1] at this
  exact this
theorem hiTo_zero (l : List Bool) (w : Nat) : List.replicate (hn l w) false = MF.hiTo l w 0 := by
  apply List.ext_getElem
  · rw [List.length_replicate, MF.hiTo_length]; rfl
  · intro i h1 h2
    have := MF.hiTo_bt l w 0 i (Nat.zero_le _)
    unfold bt at this
    rw [List.getD_eq_getElem?_getD, List.getElem?_eq_getElem h2] at this
    simp at this
    simp [this]
end Go.Proofs.E
end
/- The program: rows of bits by the places of ones: building (2). -/
section
set_option linter.unusedVariables false
set_option linter.unusedSimpArgs false
set_option linter.unusedSectionVars false
namespace Go.Proofs.E
open Go Go.Proofs.MV Go.Proofs.MI
set_option linter.unusedVariables false
set_option maxRecDepth 10000
variable {L : Nat → (Nat → Option Obj) → Prop}
theorem fano_below (n : Nat) (l : List Bool) : Below n (fanoV l) := by unfold fanoV fanoC; exact closed
set_option maxHeartbeats 1000000 in
theorem b_fbuild (hT : ∀ n c, L n c → TabL n c) (l : List Bool) (hl : l.length ≤ 40000) : Pure Tryz.prog L 51 [bitsV l] (.tup [fanoV l, .i .i64 0]) := by
  refine pure_of_W Tryz.func51 rfl rfl (by kernel_rfl) [43, 49] (by unfold bitsV; exact closed) (by unfold fanoV fanoC; exact closed) fun A hL => ?_
  have hck := b_check (L := L) l (by omega)
  have hon := b_ones (L := L) l (by omega) l.length (Nat.le_refl _)
  have hc : (l.length + 63) / 64 = wc l := rfl
  have hw := wn_length l (wc l)
  have hcl := MR.cnt_le l l.length
  have hwd := b_fwidth (L := L) l.length (MR.cnt l l.length) (by omega) hcl
  have hw19 : wF l ≤ 19 := fw_le (by omega)
  rw [show fw l.length (MR.cnt l l.length) = wF l from rfl] at hwd
  have hlow := b_low (L := L) l hl
  have hhigh := b_high (L := L) l hl
  have hnd : l.length / 2 ^ wF l ≤ l.length := Nat.div_le_self _ _
  have hhn : hn l (wF l) = MR.cnt l l.length + l.length / 2 ^ wF l + 1 := rfl
  have hnl : hn l (wF l) ≤ 100000 := by omega
  obtain ⟨d, hd⟩ : ∃ d, l.length / 2 ^ wF l = d := ⟨_, rfl⟩
  rw [hd] at hhn hnd
  have hhn' : MR.cnt l l.length + d + 1 = hn l (wF l) := hhn.symm
  clear hhn
  unfold fanoV fanoC
  rw [hiF_length l]
  unfold bitsV at *
  unfold Tryz.f51
  refine go ?_
  refine hck.does hL (go ?_)
  refine regT 8 7 0 [] [] (fun x y => [⟨33, 0, [.i .i64 (l.length : Nat), .sl false (wc l) (nums .u64 (wn l (wc l)))], true⟩, ⟨43, 0, [.i .i64 0, .i .i64 0, .i .i64 0, .i .i64 0, .i .i64 0, .ns, .i .i64 0, .ns], true⟩] ++ if x = true then [⟨43, 0, [.i .i64 0, .i .i64 0, .i .i64 0, .i .i64 0, .i .i64 0, .ns, .i .i64 0, .ns], true⟩] else []) (by kernel_rfl) (by kernel_rfl) (by kernel_rfl) rfl ?t1 (fun x y => ?_) ?_
  rotate_left
  · cases x <;> cases y <;> (refine go ?_; refine ⟨_, hon.does hL ⟨rfl, rfl⟩, ?_⟩; refine go ?_; first | exact True.intro | rfl)
  refine go ?_
  refine hwd.does hL (go ?_)
  refine regM 10 ⟨8, some 4, []⟩ ⟨9, some 5, []⟩ ⟨1000, none, []⟩ 2 (fun x y z => [⟨33, 0, [.i .i64 (l.length : Nat), .sl false (wc l) (nums .u64 (wn l (wc l)))], true⟩, ⟨43, 0, [.i .i64 0, .i .i64 0, .i .i64 0, .i .i64 0, .i .i64 0, .ns, .i .i64 0, .ns], true⟩, ⟨43, 0, [.i .i64 (l.length : Nat), .i .i64 (MR.cnt l l.length : Nat), .i .i64 0, .i .i64 0, .i .i64 0, .ns, .i .i64 0, .ns], true⟩, ⟨3, 0, [.i .i64 (wF l : Nat)], true⟩, if x = true then ⟨4, 1, bls (List.replicate (hn l (wF l)) false), true⟩ else ⟨0, 0, [], false⟩, if y = true then ⟨66, 1, [.ns], true⟩ else ⟨0, 0, [], false⟩]) (by kernel_rfl) (by kernel_rfl) (by kernel_rfl) rfl ?t2 (fun x y z _ _ hz => ?_) ?_
  rotate_left
  · cases z
    · cases x <;> cases y <;> (refine gox ?_; first | exact True.intro | rfl)
    · exact absurd (hz rfl) (by decide)
  refine go ?_
  refine b_eachOne hL l (go ?_)
  rw [hiTo_zero]
  have hwb := fano_below 0 l
  by_cases hw0 : wF l = 0
  · have hlo0 : loF l = [] := by unfold loF; rw [if_pos hw0]
    have hd1 : dF l = 1 := by unfold dF; rw [hw0]; rfl
    have hmf : MF.hiTo l 0 (MR.cnt l l.length) = hiF l := by unfold hiF MF.hi; rw [hw0]
    rw [hw0] at hhigh hnl ⊢
    rw [hlo0, hd1] at hlow ⊢
    have hln : (hiF l).length = hn l 0 := by rw [← hmf, MF.hiTo_length]; rfl
    refine b_each hT hL l (by omega) (g := 98) (ca := [.p 5 1 0, .p 3 0 0, .p 7 0 0, .p 6 0 0]) (fun i => FB l 0 i .ns) (kb := 8) (fun i => Nat.le_refl _) (fun i => rfl) (fun i hi K hK => b_put0 hL l (by omega) i hi hK) ?_
    simp only [FB, hmf]
    refine go ?_
    refine hlow.does hL (go ?_)
    refine hhigh.does hL (go ?_)
    exact fin_
  · have h0 : 0 < wF l := by omega
    have hm0 : MR.cnt l l.length ≠ 0 := fun h => hw0 (by unfold wF mF fw; rw [if_pos h])
    obtain ⟨m, hm⟩ : ∃ m, MR.cnt l l.length = m + 1 := ⟨MR.cnt l l.length - 1, by omega⟩
    have hlo : loF l = loTo l (wF l) (m + 1) := by unfold loF; rw [if_neg hw0, show mF l = m + 1 from hm]
    have hdm : dF l = wF l := by unfold dF; omega
    have hmf : MF.hiTo l (wF l) (m + 1) = hiF l := by rw [← hm]; rfl
    have hll : (loF l).length = m + 1 := by rw [hlo, loTo_length]
    have hln : (hiF l).length = hn l (wF l) := by rw [← hmf, MF.hiTo_length]; rfl
    have hmx : (if 1 < wF l then ((wF l : Nat) : Int) else 1) = ((dF l : Nat) : Int) := by unfold dF; split <;> omega
    have hlx := hll
    rw [hlo] at hlx
    refine b_each hT hL l (by omega) (g := 98) (ca := [.p 5 1 0, .p 3 0 0, .p 7 0 0, .p 6 0 0]) (FP l (wF l)) (kb := 8) (fun i => by cases i <;> simp [FP, FB]) (fun i => by cases i <;> rfl) (fun i hi K hK => b_put1 hL l (by omega) (wF l) h0 (by omega) i hi hK) ?_
    rw [hm]
    simp only [FP, FB, hmf, hm]
    rw [hll] at hlow ⊢
    rw [← hlo] at hlx ⊢
    refine go ?_
    rw [hmx]
    refine hlow.does hL (go ?_)
    refine hhigh.does hL (go ?_)
    exact fin_
end Go.Proofs.E
end
/- The program: rows of bits by the places of ones: reading all. -/
section
set_option linter.unusedVariables false
set_option linter.unusedSimpArgs false
set_option linter.unusedSectionVars false
namespace Go.Proofs.E
open Go Go.Proofs.MV Go.Proofs.MI
set_option linter.unusedVariables false
set_option maxRecDepth 10000
variable {L : Nat → (Nat → Option Obj) → Prop}
def outTo (l : List Bool) (i : Nat) : List Bool := (List.range l.length).map fun x => bt l x && decide (MR.cnt l x < i)
theorem outTo_length (l : List Bool) (i : Nat) : (outTo l i).length = l.length := by simp [outTo]
theorem outTo_zero (l : List Bool) : List.replicate l.length false = outTo l 0 := by
  apply List.ext_getElem (by simp [outTo])
  intro j h1 h2
  simp [outTo]
theorem cnt_lt_of {l : List Bool} {x : Nat} (hx : x < l.length) (h : bt l x = true) : MR.cnt l x < MR.cnt l l.length := by
  have := MR.cnt_mono l (show x + 1 ≤ l.length from hx)
  rw [cnt_t h] at this; omega
theorem outTo_all (l : List Bool) : outTo l (MR.cnt l l.length) = l := by
  apply bt_ext (outTo_length l _)
  intro j hj
  rw [outTo_length] at hj
  unfold outTo
  have : bt ((List.range l.length).map fun x => bt l x && decide (MR.cnt l x < MR.cnt l l.length)) j = (bt l j && decide (MR.cnt l j < MR.cnt l l.length)) := by
    unfold bt; rw [List.getD_eq_getElem?_getD, List.getElem?_map, List.getElem?_range hj]; rfl
  rw [this]
  cases h : bt l j
  · rfl
  · rw [decide_eq_true (cnt_lt_of hj h)]; rfl
theorem outTo_succ (l : List Bool) (i : Nat) (hi : i < MR.cnt l l.length) : (outTo l i).set (MF.pl l i) true = outTo l (i + 1) := by
  obtain ⟨h1, h2, h3⟩ := MF.onesTo_at l l.length i hi
  apply List.ext_getElem (by simp [outTo])
  intro j ha hb
  simp [outTo] at hb
  rw [List.getElem_set]
  simp only [outTo, List.getElem_map, List.getElem_range]
  by_cases e : MF.pl l i = j
  · rw [if_pos e]
    subst e
    rw [show MF.pl l i = (MF.onesTo l l.length).getD i 0 from rfl, h2, h3]
    simp
  · rw [if_neg e]
    cases h : bt l j
    · rfl
    · simp only [Bool.true_and, decide_eq_decide]
      constructor
      · intro; omega
      · intro hlt
        rcases Nat.lt_or_ge (MR.cnt l j) i with q | q
        · exact q
        · exact absurd (MF.pl_of l h (show MR.cnt l j = i by omega) (by simpa using hb)) e
theorem pl_hi (l : List Bool) (w i : Nat) (hi : i < MR.cnt l l.length) : MF.pl (MF.hi l w) i = MF.pl l i / 2 ^ w + i := by
  have h := MF.hi_sel l w i hi
  exact MF.pl_of _ h.bit (by have := h.rank; simpa [MR.rk] using this) h.lt
def RB (l : List Bool) (i : Nat) : Heap :=
  [⟨43, 0, fanoC l, true⟩, ⟨33, 0, [.i .i64 0, .ns], true⟩, ⟨3, 0, [.i .i64 (wF l : Nat)], true⟩, ⟨31, 0, [.sl false (loF l).length (nums .u64 (loF l))], true⟩, ⟨4, 0, bls (outTo l i), true⟩, ⟨66, 0, [.o 4 0 0 l.length], true⟩, ⟨3, 0, [.i .i64 i], true⟩, ⟨4, 0, [.b true], true⟩,
   ⟨33, 0, [.i .i64 ((hiF l).length : Nat), .sl false (wc (hiF l)) (nums .u64 (wn (hiF l) (wc (hiF l))))], true⟩]
theorem b_rowput {A : Amb} (hL : L A.n A.c) (l : List Bool) (hl : l.length ≤ 40000) (i : Nat) (hi : i < MR.cnt l l.length) {K : V → Heap → Prop} (hK : K (.b true) (RB l (i + 1))) :
    Does Tryz.prog A 190 [.i .i64 (MF.pl l i / 2 ^ wF l + i : Nat), .p 6 0 0, .p 2 0 0, .p 3 0 0, .p 0 0 0, .p 7 0 0, .p 5 0 0] (RB l i) K := by
  refine does_of_W Tryz.func190 rfl rfl (by kernel_rfl) [] ?_
  have hpl : MF.pl l i < l.length := (MF.onesTo_at l l.length i hi).1
  have hol := outTo_length l i
  have hos := outTo_succ l i hi
  have hw19 : wF l ≤ 19 := fw_le (by omega)
  have hcl := MR.cnt_le l l.length
  have hdm : 2 ^ wF l * (MF.pl l i / 2 ^ wF l) + MF.pl l i % 2 ^ wF l = MF.pl l i := Nat.div_add_mod _ _
  have hmu : MF.pl l i / 2 ^ wF l * 2 ^ wF l = MF.pl l i - MF.pl l i % 2 ^ wF l := by rw [Nat.mul_comm]; omega
  have hml := Nat.mod_le (MF.pl l i) (2 ^ wF l)
  have hle : MF.pl l i / 2 ^ wF l ≤ MF.pl l i := Nat.div_le_self _ _
  by_cases hw0 : wF l = 0
  · have hmz : MF.pl l i % 2 ^ wF l = 0 := by rw [hw0, Nat.pow_zero, Nat.mod_one]
    rw [hmz, Nat.sub_zero] at hmu
    have hwz : ¬ 0 < wF l := by omega
    clear hw0 hmz hml hdm
    generalize hd : MF.pl l i / 2 ^ wF l = d at *
    clear hd
    simp only [RB, fanoC] at hK ⊢
    rw [← hos] at hK
    clear hos
    unfold Tryz.f190
    refine gox ?_
    trivial
  · have h0 : 0 < wF l := by omega
    have hlo : loF l = loTo l (wF l) (MR.cnt l l.length) := by unfold loF; rw [if_neg hw0]; rfl
    have hll : (loF l).length = MR.cnt l l.length := by rw [hlo, loTo_length]
    have hlg : (loF l).getD i 0 = MF.pl l i % 2 ^ wF l := by rw [hlo]; exact MB.natmap_getD hi
    have hmk := b_mask (L := L) (wF l) (by omega)
    have hmm : 2 ^ wF l - 1 < 18446744073709551616 := Nat.lt_of_lt_of_le (Nat.sub_lt (Nat.two_pow_pos _) (by decide)) (show 2 ^ wF l ≤ 2 ^ 64 from Nat.pow_le_pow_right (by decide) (by omega))
    have hand : (MF.pl l i % 2 ^ wF l &&& (2 ^ wF l - 1)) = MF.pl l i % 2 ^ wF l := by rw [Nat.and_two_pow_sub_one_eq_mod, Nat.mod_mod]
    have hor : (MF.pl l i - MF.pl l i % 2 ^ wF l ||| MF.pl l i % 2 ^ wF l) = MF.pl l i := by
      rw [← hmu, Nat.mul_comm, ← Nat.two_pow_add_eq_or_of_lt (Nat.mod_lt _ (Nat.two_pow_pos _))]; exact hdm
    clear hw0 hlo hdm
    generalize hd : MF.pl l i / 2 ^ wF l = d at *
    generalize hr : MF.pl l i % 2 ^ wF l = r at *
    clear hd hr
    simp only [RB, fanoC] at hK ⊢
    rw [← hos, hll] at hK
    clear hos
    unfold Tryz.f190
    refine gox ?_
    refine regD 11 (by kernel_rfl) (by kernel_rfl) (gox ?_)
    refine ⟨_, hmk.does hL ⟨rfl, rfl⟩, ?_⟩
    refine gox ?_
    trivial
set_option maxHeartbeats 1000000 in
theorem b_frow (hT : ∀ n c, L n c → TabL n c) (l : List Bool) (hl : l.length ≤ 40000) : Pure Tryz.prog L 166 [fanoV l] (.tup [bitsV l, .b true]) := by
  refine pure_of_W Tryz.func166 rfl rfl (by kernel_rfl) [67] (by unfold fanoV fanoC; exact closed) (by unfold bitsV; exact closed) fun A hL => ?_
  have h1 := loF_le l
  have h2 : mF l ≤ l.length := MR.cnt_le l l.length
  have h2' := MR.cnt_le l l.length
  have h3 : wF l ≤ 19 := fw_le (by omega)
  have h4 : 1 ≤ dF l ∧ dF l ≤ 19 := by unfold dF; omega
  have h5 : (loF l).length * dF l ≤ 40000 * 19 := Nat.mul_le_mul (by omega) h4.2
  have hic := b_icheck (L := L) (dF l) (loF l) (by omega) (by omega) (by omega)
  have hil := b_list (L := L) (dF l) (loF l) (by omega) (by omega) (by omega) (lo_lt l)
  have hln := hiF_length l
  have hnd : l.length / 2 ^ wF l ≤ l.length := Nat.div_le_self _ _
  have hhn : hn l (wF l) = MR.cnt l l.length + l.length / 2 ^ wF l + 1 := rfl
  have hck := b_check (L := L) (hiF l) (by omega)
  have hwd := b_fwidth (L := L) l.length (MR.cnt l l.length) (by omega) h2'
  rw [show fw l.length (MR.cnt l l.length) = wF l from rfl] at hwd
  have hfr := b_from (L := L) l (by omega)
  have hbd := b_fbuild (L := L) hT l hl
  have e1 := b_eq_u64 (L := L) (wn (flat (dF l) (loF l)) (wc (flat (dF l) (loF l)))) (by rw [wn_length]; unfold wc; rw [flat_length]; omega)
  have e2 := b_eq_u64 (L := L) (wn (hiF l) (wc (hiF l))) (by rw [wn_length]; unfold wc; omega)
  rw [wn_length] at e1 e2
  have hall : MR.cnt (hiF l) (hiF l).length = MR.cnt l l.length := MF.hi_all l (wF l)
  have hoz := outTo_zero l
  have hoa := outTo_all l
  have hb1 : ∀ i, i < MR.cnt (hiF l) (hiF l).length → ∀ K : V → Heap → Prop, K (.b true) (RB l (i + 1)) → Does Tryz.prog A 190 (.i .i64 (MF.pl (hiF l) i : Nat) :: [.p 6 0 0, .p 2 0 0, .p 3 0 0, .p 0 0 0, .p 7 0 0, .p 5 0 0]) (RB l i) K := fun i hi K hK => by
    rw [hall] at hi
    rw [show MF.pl (hiF l) i = MF.pl l i / 2 ^ wF l + i from pl_hi l (wF l) i hi]
    exact b_rowput hL l hl i hi hK
  have hhl : (hiF l).length ≤ 1048576 := by omega
  unfold fanoV at *
  unfold fanoC bitsV intsV at *
  clear hhn hnd hln
  unfold Tryz.f166
  refine go ?_
  refine hic.does hL (go ?_)
  refine hck.does hL (go ?_)
  refine hwd.does hL (go ?_)
  refine hil.does hL (go ?_)
  refine b_eachOne hL (hiF l) (go ?_)
  rw [hoz]
  refine b_each hT hL (hiF l) hhl (g := 190) (ca := [.p 6 0 0, .p 2 0 0, .p 3 0 0, .p 0 0 0, .p 7 0 0, .p 5 0 0]) (fun i => RB l i) (kb := 8) (fun i => Nat.le_refl _) (fun i => rfl) hb1 ?_
  rw [hall]
  simp only [RB, fanoC, hoa]
  refine go ?_
  refine hfr.does hL (go ?_)
  refine hbd.does hL (go ?_)
  refine e1.does hL (go ?_)
  refine e2.does hL (go ?_)
  exact fin_
theorem b_fcheck (hT : ∀ n c, L n c → TabL n c) (l : List Bool) (hl : l.length ≤ 40000) : Pure Tryz.prog L 125 [fanoV l] (.b true) := by
  refine pure_of_W Tryz.func125 rfl rfl (by kernel_rfl) [] (by unfold fanoV fanoC; exact closed) closed fun A hL => ?_
  have h1 := b_frow (L := L) hT l hl
  unfold fanoV fanoC bitsV at *
  unfold Tryz.f125
  refine go ?_
  refine h1.does hL (go ?_)
  exact fin_
theorem b_fbits (hT : ∀ n c, L n c → TabL n c) (l : List Bool) (hl : l.length ≤ 40000) : Pure Tryz.prog L 138 [fanoV l] (bitsV l) := by
  refine pure_of_W Tryz.func138 rfl rfl (by kernel_rfl) [] (by unfold fanoV fanoC; exact closed) (by unfold bitsV; exact closed) fun A hL => ?_
  have h1 := b_frow (L := L) hT l hl
  unfold fanoV fanoC bitsV at *
  unfold Tryz.f138
  refine go ?_
  refine h1.does hL (go ?_)
  exact fin_
end Go.Proofs.E
end
/- The program: rows of bits by the places of ones: places and counts. -/
section
set_option linter.unusedVariables false
set_option linter.unusedSimpArgs false
set_option linter.unusedSectionVars false
namespace Go.Proofs.E
open Go Go.Proofs.MV Go.Proofs.MI
set_option linter.unusedVariables false
set_option maxRecDepth 10000
variable {L : Nat → (Nat → Option Obj) → Prop}
theorem b_fsize (hT : ∀ n c, L n c → TabL n c) (l : List Bool) (hl : l.length ≤ 40000) : Pure Tryz.prog L 70 [fanoV l] (.i .i64 ((loF l).length * dF l + (hiF l).length + 64 : Nat)) := by
  refine pure_of_W Tryz.func70 rfl rfl (by kernel_rfl) [] (by unfold fanoV fanoC; exact closed) closed fun A hL => ?_
  have h1 := b_fcheck (L := L) hT l hl
  have q1 := loF_le l
  have q2 : mF l ≤ l.length := MR.cnt_le l l.length
  have q3 : wF l ≤ 19 := fw_le (by omega)
  have q4 : 1 ≤ dF l ∧ dF l ≤ 19 := by unfold dF; omega
  have q5 : (loF l).length * dF l ≤ 40000 * 19 := Nat.mul_le_mul (by omega) q4.2
  have hln := hiF_length l
  have hnd : l.length / 2 ^ wF l ≤ l.length := Nat.div_le_self _ _
  have hhn : hn l (wF l) = MR.cnt l l.length + l.length / 2 ^ wF l + 1 := rfl
  have h2' := MR.cnt_le l l.length
  have hhl : (hiF l).length ≤ 1048576 := by omega
  clear hln hnd hhn
  unfold fanoV fanoC at *
  unfold Tryz.f70
  refine go ?_
  refine h1.does hL (go ?_)
  exact fin_
theorem b_fplace (hT : ∀ n c, L n c → TabL n c) (l : List Bool) (hl : l.length ≤ 40000) (i : Nat) (hi : i < MR.cnt l l.length) : Pure Tryz.prog L 135 [fanoV l, .i .i64 i] (.i .i64 (MF.pl l i : Nat)) := by
  refine pure_of_W Tryz.func135 rfl rfl (by kernel_rfl) [] (by unfold fanoV fanoC; exact closed) closed fun A hL => ?_
  have q1 := loF_le l
  have q2 : mF l ≤ l.length := MR.cnt_le l l.length
  have q3 : wF l ≤ 19 := fw_le (by omega)
  have q4 : 1 ≤ dF l ∧ dF l ≤ 19 := by unfold dF; omega
  have q5 : (loF l).length * dF l ≤ 40000 * 19 := Nat.mul_le_mul (by omega) q4.2
  have hln := hiF_length l
  have hnd : l.length / 2 ^ wF l ≤ l.length := Nat.div_le_self _ _
  have hhn : hn l (wF l) = MR.cnt l l.length + l.length / 2 ^ wF l + 1 := rfl
  have h2' := MR.cnt_le l l.length
  have hhl : (hiF l).length ≤ 1048576 := by omega
  have hwd := b_fwidth (L := L) l.length (MR.cnt l l.length) (by omega) h2'
  rw [show fw l.length (MR.cnt l l.length) = wF l from rfl] at hwd
  have hsel : MR.Sel true (hiF l) i (MF.pl l i / 2 ^ wF l + i) := MF.hi_sel l (wF l) i hi
  have hpl : MF.pl l i < l.length := (MF.onesTo_at l l.length i hi).1
  have hdm : 2 ^ wF l * (MF.pl l i / 2 ^ wF l) + MF.pl l i % 2 ^ wF l = MF.pl l i := Nat.div_add_mod _ _
  have hmu : MF.pl l i / 2 ^ wF l * 2 ^ wF l = MF.pl l i - MF.pl l i % 2 ^ wF l := by rw [Nat.mul_comm]; omega
  have hml := Nat.mod_le (MF.pl l i) (2 ^ wF l)
  have hle : MF.pl l i / 2 ^ wF l ≤ MF.pl l i := Nat.div_le_self _ _
  have hor : (MF.pl l i - MF.pl l i % 2 ^ wF l ||| MF.pl l i % 2 ^ wF l) = MF.pl l i := by
    rw [← hmu, Nat.mul_comm, ← Nat.two_pow_add_eq_or_of_lt (Nat.mod_lt _ (Nat.two_pow_pos _))]; exact hdm
  have hm0 : wF l = 0 → MF.pl l i % 2 ^ wF l = 0 := fun h => by rw [h, Nat.pow_zero, Nat.mod_one]
  have hget : 0 < wF l → Pure Tryz.prog L 170 [intsV (dF l) (loF l), .i .i64 i] (.tup [.i .u64 (MF.pl l i % 2 ^ wF l : Nat), .i .i64 0]) := fun h0 => by
    have hlo : loF l = loTo l (wF l) (MR.cnt l l.length) := by unfold loF; rw [if_neg (by omega)]; rfl
    have hll : (loF l).length = MR.cnt l l.length := by rw [hlo, loTo_length]
    have hlg : (loF l).getD i 0 = MF.pl l i % 2 ^ wF l := by rw [hlo]; exact MB.natmap_getD hi
    have := b_iget (L := L) (dF l) (loF l) (by omega) (by omega) (by omega) i (by omega) (lo_lt l i (by omega))
    rw [hlg] at this
    exact this
  clear hdm hln hhn hnd
  generalize MF.pl l i / 2 ^ wF l = d at *
  generalize MF.pl l i % 2 ^ wF l = r at *
  have hw := wn_length (hiF l) (wc (hiF l))
  have hc : ((hiF l).length + 63) / 64 = wc (hiF l) := rfl
  have hdl := hsel.lt
  have hcmp := sel_cmp hsel
  have hrk : ∀ j, MR.rk true (hiF l) j = MR.cnt (hiF l) j := fun j => rfl
  unfold fanoV fanoC at *
  unfold intsV at hget
  unfold Tryz.f135
  refine go ?_
  refine hwd.does hL (go ?_)
  refine loop_ (fun j : Nat => ⟨[(1, .i .i64 i), (2, .p 0 0 0), (5, .i .i64 (wF l : Nat)), (6, .i .i64 (i - MR.cnt (hiF l) (64 * j) : Nat)), (7, .i .i64 (64 * j : Nat)), (22, .sl false (wc (hiF l)) (nums .u64 (wn (hiF l) (wc (hiF l))))), (23, .i .i64 (wc (hiF l) : Nat)), (24, .i .i64 j)], _⟩) (fun j => 64 * j ≤ d + i) (fun j => d + i + 1 - 64 * j) 0 (Nat.zero_le _) (le_slots (Nat.zero_le _) (go ?_)) fun j hj => go ?_
  · trivial
  have hjw : j < wc (hiF l) := by omega
  have hjc := (hcmp (64 * j)).2 hj
  rw [hrk] at hjc
  have hwg := wn_getD (hiF l) (wc (hiF l)) j hjw
  have hwl := wN_lt (hiF l) j
  have hpp := MB.pop_le (wN (hiF l) j) 64
  have hnx := cnt_words (hiF l) j
  have hcn := hcmp (64 * (j + 1))
  rw [hrk, hnx] at hcn
  refine gox ?_
  refine (b_pop (wN (hiF l) j) hwl).does hL (go ?_)
  refine ⟨fun h1 => go ?_, fun h1 => ?_⟩
  · have := hcn.1 (by omega)
    refine ⟨j + 1, by omega, by omega, le_slots (Nat.zero_le _) (gox ?_)⟩
    omega
  · have hpe : (d + i) / 64 = j := by have : ¬ 64 * (j + 1) ≤ d + i := fun h => h1 (by have := hcn.2 h; omega); omega
    obtain ⟨s1, s2, s3⟩ := sel_wb hsel hpe
    rw [hrk, show wb true (hiF l) j = wN (hiF l) j from rfl] at s2 s3
    have hse := b_select hT (L := L) (wN (hiF l) j) _ hwl s2
    rw [s3] at hse
    refine go ?_
    have hsub : 64 * j + (d + i) % 64 - i = d := by omega
    clear hnx hcn hcmp hjc
    by_cases h0 : 0 < wF l
    · have hg := hget h0
      refine hse.does hL (gox ?_)
      refine hg.does hL (gox ?_)
      exact fin_
    · have hr0 : r = 0 := hm0 (by omega)
      rw [hr0, Nat.sub_zero] at hmu
      clear hm0 hget hor
      refine hse.does hL (gox ?_)
      exact fin_
theorem pl_cmp (l : List Bool) {m i : Nat} (hm : m < MR.cnt l l.length) : MF.pl l m < i ↔ m < MR.cnt l i := by
  obtain ⟨h1, h2, h3⟩ := MF.onesTo_at l l.length m hm
  have h2 : bt l (MF.pl l m) = true := h2
  have h3 : MR.cnt l (MF.pl l m) = m := h3
  constructor
  · intro h
    have := MR.cnt_mono l (show MF.pl l m + 1 ≤ i from h)
    rw [cnt_t h2, h3] at this; omega
  · intro h
    refine Nat.lt_of_not_le fun hle => ?_
    have := MR.cnt_mono l hle
    omega
theorem b_fones (hT : ∀ n c, L n c → TabL n c) (l : List Bool) (hl : l.length ≤ 40000) (i : Nat) (hi : i ≤ l.length) : Pure Tryz.prog L 131 [fanoV l, .i .i64 i] (.i .i64 (MR.cnt l i : Nat)) := by
  refine pure_of_W Tryz.func131 rfl rfl (by kernel_rfl) [] (by unfold fanoV fanoC; exact closed) closed fun A hL => ?_
  have hp := fun m hm => b_fplace (L := L) hT l hl m hm
  have hcm := MR.cnt_mono l hi
  have hcl := MR.cnt_le l l.length
  unfold fanoV fanoC at *
  unfold Tryz.f131
  refine go ?_
  refine regD 4 (by kernel_rfl) (by kernel_rfl) (go ?_)
  refine loop_ (fun x : Nat × Nat => ⟨[(1, .i .i64 i), (2, .p 0 0 0), (5, .i .i64 x.1), (6, .i .i64 x.2)], _⟩) (fun x => x.1 ≤ MR.cnt l i ∧ MR.cnt l i ≤ x.2 ∧ x.2 ≤ MR.cnt l l.length) (fun x => x.2 - x.1) (0, MR.cnt l l.length) ⟨Nat.zero_le _, hcm, Nat.le_refl _⟩ (le_slots (Nat.zero_le _) (go ?_)) fun ⟨lo, hi'⟩ ⟨i1, i2, i3⟩ => ?_
  · trivial
  simp only at i1 i2 i3
  refine go ?_
  refine ⟨fun h1 => go ?_, fun h1 => go ?_⟩
  · refine (hp ((lo + hi') / 2) (by omega)).does hL (go ?_)
    have hc := pl_cmp l (m := (lo + hi') / 2) (i := i) (by omega)
    refine ⟨fun h2 => go ?_, fun h2 => go ?_⟩
    · have := hc.1 h2
      exact ⟨((lo + hi') / 2 + 1, hi'), by simp only; omega, ⟨by simp only; omega, i2, i3⟩, le_slots (Nat.zero_le _) (go trivial)⟩
    · have : ¬ (lo + hi') / 2 < MR.cnt l i := fun h => h2 (hc.2 h)
      exact ⟨(lo, (lo + hi') / 2), by simp only; omega, ⟨i1, by simp only; omega, by simp only; omega⟩, le_slots (Nat.zero_le _) (go trivial)⟩
  · obtain rfl : lo = MR.cnt l i := by omega
    exact fin_
theorem b_frank (hT : ∀ n c, L n c → TabL n c) (l : List Bool) (hl : l.length ≤ 40000) (b : Bool) (i : Nat) (hi : i ≤ l.length) : Pure Tryz.prog L 78 [fanoV l, .b b, .i .i64 i] (.tup [.i .i64 (MR.rk b l i : Nat), .i .i64 0]) := by
  refine pure_of_W Tryz.func78 rfl rfl (by kernel_rfl) [] (by unfold fanoV fanoC; exact closed) closed fun A hL => ?_
  have hck := b_fcheck (L := L) hT l hl
  have ho := b_fones (L := L) hT l hl i hi
  have hcl := MR.cnt_le l i
  unfold MR.rk
  unfold fanoV fanoC at *
  unfold Tryz.f78
  cases b <;> refine go ?_ <;> refine hck.does hL (go ?_) <;> refine ho.does hL (go ?_) <;> exact fin_
theorem b_faccess (hT : ∀ n c, L n c → TabL n c) (l : List Bool) (hl : l.length ≤ 40000) (i : Nat) (hi : i < l.length) : Pure Tryz.prog L 113 [fanoV l, .i .i64 i] (.tup [.b (bt l i), .i .i64 0]) := by
  refine pure_of_W Tryz.func113 rfl rfl (by kernel_rfl) [] (by unfold fanoV fanoC; exact closed) closed fun A hL => ?_
  have hck := b_fcheck (L := L) hT l hl
  have h1 := b_fones (L := L) hT l hl (i + 1) (by omega)
  have h2 := b_fones (L := L) hT l hl i (by omega)
  have he : decide (MR.cnt l i < MR.cnt l (i + 1)) = bt l i := by
    cases h : bt l i
    · rw [cnt_f h]; simp
    · rw [cnt_t h]; simp
  unfold fanoV fanoC at *
  unfold Tryz.f113
  refine go ?_
  refine hck.does hL (go ?_)
  refine regD 10 (by kernel_rfl) (by kernel_rfl) (go ?_)
  refine ⟨_, h1.does hL ⟨rfl, rfl⟩, ?_⟩
  refine ⟨_, h2.does hL ⟨rfl, rfl⟩, ?_⟩
  refine go ?_
  rw [he]
  exact fin_
theorem b_fselect (hT : ∀ n c, L n c → TabL n c) (l : List Bool) (hl : l.length ≤ 40000) (b : Bool) (k p : Nat) (hs : MR.Sel b l k p) : Pure Tryz.prog L 81 [fanoV l, .b b, .i .i64 k] (.tup [.i .i64 p, .i .i64 0]) := by
  refine pure_of_W Tryz.func81 rfl rfl (by kernel_rfl) [] (by unfold fanoV fanoC; exact closed) closed fun A hL => ?_
  have hck := b_fcheck (L := L) hT l hl
  have hsl := MR.sel_lt hs
  have hcl := MR.cnt_le l l.length
  have hplt := hs.lt
  have hp := fun m hm => b_fplace (L := L) hT l hl m hm
  have ho := fun i hi => b_fones (L := L) hT l hl i hi
  have hcmp := sel_cmp hs
  unfold fanoV fanoC at *
  unfold Tryz.f81
  cases b
  · have hrk : ∀ j, MR.rk false l j = j - MR.cnt l j := fun j => rfl
    rw [hrk] at hsl
    refine go ?_
    refine hck.does hL (go ?_)
    refine regD 5 (by kernel_rfl) (by kernel_rfl) (go ?_)
    refine loop_ (fun x : Nat × Nat => ⟨[(2, .i .i64 k), (3, .p 0 0 0), (9, .i .i64 x.1), (10, .i .i64 x.2)], _⟩) (fun x => x.1 ≤ p ∧ p ≤ x.2 ∧ x.2 ≤ l.length - 1) (fun x => x.2 - x.1) (0, l.length - 1) ⟨Nat.zero_le _, by omega, Nat.le_refl _⟩ (le_slots (Nat.zero_le _) (go ?_)) fun ⟨lo, hi⟩ ⟨i1, i2, i3⟩ => ?_
    · trivial
    simp only at i1 i2 i3
    refine go ?_
    refine ⟨fun h1 => go ?_, fun h1 => go ?_⟩
    · have hc2 := MR.cnt_le l ((lo + hi) / 2 + 1)
      have hcc := hcmp ((lo + hi) / 2 + 1)
      rw [hrk] at hcc
      refine (ho ((lo + hi) / 2 + 1) (by omega)).does hL (go ?_)
      refine ⟨fun h2 => go ?_, fun h2 => go ?_⟩
      · have := hcc.1 h2
        exact ⟨((lo + hi) / 2 + 1, hi), by simp only; omega, ⟨by simp only; omega, i2, i3⟩, le_slots (Nat.zero_le _) (go trivial)⟩
      · have : ¬ (lo + hi) / 2 + 1 ≤ p := fun h => h2 (hcc.2 h)
        exact ⟨(lo, (lo + hi) / 2), by simp only; omega, ⟨i1, by simp only; omega, by simp only; omega⟩, le_slots (Nat.zero_le _) (go trivial)⟩
    · obtain rfl : lo = p := by omega
      exact fin_
  · have hk : k < MR.cnt l l.length := hsl
    have hpe : MF.pl l k = p := MF.pl_of l hs.bit (by have := hs.rank; simpa [MR.rk] using this) hs.lt
    have hpp := hp k hk
    rw [hpe] at hpp
    refine go ?_
    refine hck.does hL (go ?_)
    refine hpp.does hL (go ?_)
    exact fin_
end Go.Proofs.E
end
/- The program: rows of bits of one of the kinds. -/
section
set_option linter.unusedVariables false
set_option linter.unusedSimpArgs false
set_option linter.unusedSectionVars false
namespace Go.Proofs.E
open Go Go.Proofs.MV Go.Proofs.MI
set_option linter.unusedVariables false
set_option maxRecDepth 10000
variable {L : Nat → (Nat → Option Obj) → Prop}
def zS : V := .sl false 0 []
def zP : List V := [.i .i64 0, zS, zS, zS]
def zR : List V := [.i .i64 0, .i .i64 0, .i .i64 0, .i .i64 0, zS, .i .i64 0, zS, zS, zS]
def zF : List V := [.i .i64 0, .i .i64 0, .i .i64 0, .i .i64 0, .i .i64 0, zS, .i .i64 0, zS]
/-- One of a kind, made of bits. -/
def vecC (kind : Nat) (l : List Bool) : List V := .i .i64 kind :: ((if kind = 1 then plainC l else zP) ++ ((if kind = 2 then rrrC l else zR) ++ (if kind = 3 then fanoC l else zF)))
def vecV (kind : Nat) (l : List Bool) : V := .agg (vecC kind l)
theorem vec_below (n kind : Nat) (l : List Bool) (hk : kind = 1 ∨ kind = 2 ∨ kind = 3) : Below n (vecV kind l) := by
  rcases hk with rfl | rfl | rfl
  · simp only [vecV, vecC, if_true, zP, zR, zF, zS, plainC, rrrC, fanoC, List.cons_append, List.nil_append, reduceIte, Nat.reduceEqDiff]; exact closed
  · simp only [vecV, vecC, if_true, zP, zR, zF, zS, plainC, rrrC, fanoC, List.cons_append, List.nil_append, reduceIte, Nat.reduceEqDiff]; exact closed
  · simp only [vecV, vecC, if_true, zP, zR, zF, zS, plainC, rrrC, fanoC, List.cons_append, List.nil_append, reduceIte, Nat.reduceEqDiff]; exact closed
theorem vec_1 (l : List Bool) : vecV 1 l = .agg (.i .i64 (1 : Nat) :: (plainC l ++ (zR ++ zF))) := rfl
theorem vec_2 (l : List Bool) : vecV 2 l = .agg (.i .i64 (2 : Nat) :: (zP ++ (rrrC l ++ zF))) := rfl
theorem vec_3 (l : List Bool) : vecV 3 l = .agg (.i .i64 (3 : Nat) :: (zP ++ (zR ++ fanoC l))) := rfl
theorem tup2_below {n : Nat} {v : V} {k : IntKind} {x : Int} (h : Below n v) : Below n (.tup [v, .i k x]) := .tup fun u hu => by
  rcases List.mem_cons.1 hu with e | e
  · subst e; exact h
  · rw [List.mem_singleton.1 e]; exact .i _ _
theorem b_vbuild (hT : ∀ n c, L n c → TabL n c) (kind : Nat) (hk : kind = 1 ∨ kind = 2 ∨ kind = 3) (l : List Bool) (hl : l.length ≤ 40000) : Pure Tryz.prog L 29 [.i .i64 kind, bitsV l] (.tup [vecV kind l, .i .i64 0]) := by
  refine pure_of_W Tryz.func29 rfl rfl (by kernel_rfl) [] (by unfold bitsV; exact closed) (tup2_below (vec_below 0 kind l hk)) fun A hL => ?_
  have h1 := b_pbuild (L := L) l (by omega)
  have h2 := b_rbuild (L := L) l (by omega)
  have h3 := b_fbuild (L := L) hT l hl
  unfold plainV rrrV fanoV bitsV at *
  unfold Tryz.f29
  rcases hk with rfl | rfl | rfl
  · rw [vec_1]
    simp only [plainC, zR, zF, zS, List.cons_append, List.nil_append] at h1 ⊢
    refine go ?_
    refine h1.does hL (go ?_)
    exact fin_
  · rw [vec_2]
    simp only [rrrC, zP, zF, zS, List.cons_append, List.nil_append] at h2 ⊢
    refine go ?_
    refine h2.does hL (go ?_)
    exact fin_
  · rw [vec_3]
    simp only [fanoC, zR, zP, zS, List.cons_append, List.nil_append] at h3 ⊢
    refine go ?_
    refine h3.does hL (go ?_)
    exact fin_
end Go.Proofs.E
end
/- The program: rows of bits of one of the kinds: what is spare. -/
section
set_option linter.unusedVariables false
set_option linter.unusedSimpArgs false
set_option linter.unusedSectionVars false
namespace Go.Proofs.E
open Go Go.Proofs.MV Go.Proofs.MI
set_option linter.unusedVariables false
set_option maxRecDepth 10000
variable {L : Nat → (Nat → Option Obj) → Prop}
theorem b_empty1 (n m : Nat) (ws : List Nat) (h : n = 0 → m = 0) (hn : n < 1000000000) (hm : m < 1000000000) : Pure Tryz.prog L 163 [.sl true 1 [.i .i64 n, .sl false m (nums .u64 ws)]] (.b (decide (n = 0))) := by
  refine pure_of_W Tryz.func163 rfl rfl (by kernel_rfl) [] closed closed fun A hL => ?_
  unfold Tryz.f163
  by_cases h0 : n = 0
  · have hm0 := h h0
    subst h0; subst hm0
    refine go ?_
    refine loop_ (fun i : Nat => ⟨[(5, .sl true 1 [.i .i64 (0 : Nat), .sl false 0 (nums .u64 ws)]), (6, .i .i64 1), (7, .i .i64 i)], []⟩) (fun i => i ≤ 1) (fun i => 1 - i) 0 (Nat.zero_le _) (le_slots (Nat.zero_le _) (go ?_)) fun i hi => ?_
    · trivial
    refine go ?_
    refine ⟨fun h1 => ?_, fun h1 => go ?_⟩
    · obtain rfl : i = 0 := by omega
      refine go ?_
      exact ⟨1, by omega, by omega, le_gc 0 (Nat.zero_le _) (by simp) rfl (go trivial)⟩
    · exact fin_
  · refine go ?_
    refine loop_ (fun i : Nat => ⟨[(5, .sl true 1 [.i .i64 n, .sl false m (nums .u64 ws)]), (6, .i .i64 1), (7, .i .i64 i)], []⟩) (fun i => i ≤ 0) (fun i => 1 - i) 0 (Nat.zero_le _) (le_slots (Nat.zero_le _) (go ?_)) fun i hi => ?_
    · trivial
    obtain rfl : i = 0 := by omega
    refine go ?_
    exact fin_
def emI (n n' i : Nat) : Prop := i ≤ 2 ∧ (0 < i → n = 0) ∧ (1 < i → n' = 0)
theorem b_empty2 (n m : Nat) (ws : List Nat) (n' m' : Nat) (ws' : List Nat) (h : n = 0 → m = 0) (h' : n' = 0 → m' = 0) (hn : n < 1000000000) (hm : m < 1000000000) (hn' : n' < 1000000000) (hm' : m' < 1000000000) :
    Pure Tryz.prog L 163 [.sl true 2 [.i .i64 n, .sl false m (nums .u64 ws), .i .i64 n', .sl false m' (nums .u64 ws')]] (.b (decide (n = 0) && decide (n' = 0))) := by
  refine pure_of_W Tryz.func163 rfl rfl (by kernel_rfl) [] closed closed fun A hL => ?_
  unfold Tryz.f163
  refine go ?_
  refine loop_ (fun i : Nat => ⟨[(5, .sl true 2 [.i .i64 n, .sl false m (nums .u64 ws), .i .i64 n', .sl false m' (nums .u64 ws')]), (6, .i .i64 2), (7, .i .i64 i)], []⟩) (emI n n') (fun i => 2 - i) 0 ⟨Nat.zero_le _, fun h => absurd h (by decide), fun h => absurd h (by decide)⟩ (le_slots (Nat.zero_le _) (go ?_)) fun i ⟨hi, hi1, hi2⟩ => ?_
  · trivial
  refine go ?_
  refine ⟨fun h1 => ?_, fun h1 => ?_⟩
  · by_cases hi0 : i = 0
    · subst hi0
      by_cases h0 : n = 0
      · have hm0 := h h0
        subst h0; subst hm0
        refine go ?_
        exact ⟨1, by omega, ⟨by omega, fun _ => rfl, fun h => absurd h (by decide)⟩, le_gc 0 (Nat.zero_le _) (by simp) rfl (go trivial)⟩
      · refine go ?_
        exact fin_
    · obtain rfl : i = 1 := by omega
      have hn0 := hi1 (by decide)
      by_cases h0 : n' = 0
      · have hm0 := h' h0
        subst h0; subst hm0
        refine go ?_
        exact ⟨2, by omega, ⟨by omega, fun _ => hn0, fun _ => rfl⟩, le_gc 0 (Nat.zero_le _) (by simp) rfl (go trivial)⟩
      · refine go ?_
        exact fin_
  · obtain rfl : i = 2 := by omega
    have := hi1 (by decide)
    have := hi2 (by decide)
    refine go ?_
    exact fin_
end Go.Proofs.E
end
/- The program: rows of bits of one of the kinds: the fields of others are zero (1). -/
section
set_option linter.unusedVariables false
set_option linter.unusedSimpArgs false
set_option linter.unusedSectionVars false
namespace Go.Proofs.E
open Go Go.Proofs.MV Go.Proofs.MI
set_option linter.unusedVariables false
set_option maxRecDepth 10000
variable {L : Nat → (Nat → Option Obj) → Prop}
set_option maxHeartbeats 4000000 in
theorem b_spare1 (l : List Bool) (hl : l.length ≤ 40000) : Pure Tryz.prog L 122 [vecV 1 l] (.b true) := by
  refine pure_of_W Tryz.func122 rfl rfl (by kernel_rfl) [] (by have := vec_below 0 1 l (by simp); intro v hv; rw [List.mem_singleton.1 hv]; exact this) closed fun A hL => ?_
  have eR : Pure Tryz.prog L 163 [.sl true 2 [.i .i64 0, .sl false 0 [], .i .i64 0, .sl false 0 []]] (.b true) := b_empty2 0 0 [] 0 0 [] (fun _ => rfl) (fun _ => rfl) (by decide) (by decide) (by decide) (by decide)
  have e1 := b_empty1 (L := L) l.length (wc l) (wn l (wc l)) (fun h => by unfold wc; omega) (by omega) (by unfold wc; omega)
  have hx : ∀ x : Bool, decide (l.length = 0) = x → Pure Tryz.prog L 163 [.sl true 1 [.i .i64 (l.length : Nat), .sl false (wc l) (nums .u64 (wn l (wc l)))]] (.b x) := fun x h => by rw [← h]; exact e1
  rw [vec_1]
  simp only [plainC, zP, zR, zF, zS, List.cons_append, List.nil_append]
  unfold Tryz.f122
  refine go ?_
  refine regL 11 [⟨6, some 1, []⟩, ⟨7, some 2, []⟩, ⟨8, some 3, []⟩, ⟨9, none, [6, 1, 0]⟩, ⟨10, none, [7, 3, 2]⟩] 3 (fun f => [⟨45, 0, .i .i64 1 :: (plainC l ++ (zR ++ zF)), true⟩, if f 6 = true then ⟨37, 1, if f 9 = true then plainC l else [.i .i64 0, .ns, .ns, .ns], true⟩ else ⟨0, 0, [], false⟩, if f 7 = true then ⟨41, 1, if f 10 = true then zR else [.i .i64 0, .i .i64 0, .i .i64 0, .i .i64 0, .ns, .i .i64 0, .ns, .ns, .ns], true⟩ else ⟨0, 0, [], false⟩, if f 8 = true then ⟨43, 1, [.i .i64 0, .i .i64 0, .i .i64 0, .i .i64 0, .i .i64 0, .ns, .i .i64 0, .ns], true⟩ else ⟨0, 0, [], false⟩]) (by kernel_rfl) (by kernel_rfl) (by kernel_rfl) (fun f g h => by simp only [h 6 rfl, h 7 rfl, h 8 rfl, h 9 rfl, h 10 rfl]) rfl ?t1 (fun f hf => ?_) ?_
  rotate_left
  · have g6 : f 9 = true → f 6 = true := fun h => hf ⟨9, none, [6, 1, 0]⟩ (by simp) h ⟨6, some 1, []⟩ (by simp) rfl
    have g7 : f 10 = true → f 7 = true := fun h => hf ⟨10, none, [7, 3, 2]⟩ (by simp) h ⟨7, some 2, []⟩ (by simp) rfl
    clear hf
    simp only [plainC, rrrC, fanoC, zP, zR, zF, zS, List.cons_append, List.nil_append]
    cases h9 : f 9 <;> cases h10 : f 10 <;> cases h6 : f 6 <;> cases h7 : f 7 <;> cases h8 : f 8 <;> first | exact absurd (g6 h9) (by rw [h6]; decide) | exact absurd (g7 h10) (by rw [h7]; decide) | (refine gox ?_; first | exact True.intro | rfl)
  simp only [plainC, rrrC, fanoC, zP, zR, zF, zS, List.cons_append, List.nil_append]
  have r2 : ∀ a : List V, List.replicate 2 a = [a, a] := fun _ => rfl
  refine gox ?_
  by_cases h0 : l.length = 0
  · refine (hx true (decide_eq_true h0)).does hL (gox ?_)
    refine eR.does hL (gox ?_)
    refine eR.does hL (gox ?_)
    exact fin_
  · refine (hx false (decide_eq_false h0)).does hL (gox ?_)
    refine eR.does hL (gox ?_)
    refine eR.does hL (gox ?_)
    exact fin_
end Go.Proofs.E
end
/- The program: rows of bits of one of the kinds: the fields of others are zero (2). -/
section
set_option linter.unusedVariables false
set_option linter.unusedSimpArgs false
set_option linter.unusedSectionVars false
namespace Go.Proofs.E
open Go Go.Proofs.MV Go.Proofs.MI
set_option linter.unusedVariables false
set_option maxRecDepth 10000
variable {L : Nat → (Nat → Option Obj) → Prop}
set_option maxHeartbeats 4000000 in
theorem b_spare2 (l : List Bool) (hl : l.length ≤ 40000) : Pure Tryz.prog L 122 [vecV 2 l] (.b true) := by
  refine pure_of_W Tryz.func122 rfl rfl (by kernel_rfl) [] (by have := vec_below 0 2 l (by simp); intro v hv; rw [List.mem_singleton.1 hv]; exact this) closed fun A hL => ?_
  have eR : Pure Tryz.prog L 163 [.sl true 2 [.i .i64 0, .sl false 0 [], .i .i64 0, .sl false 0 []]] (.b true) := b_empty2 0 0 [] 0 0 [] (fun _ => rfl) (fun _ => rfl) (by decide) (by decide) (by decide) (by decide)
  have eP : Pure Tryz.prog L 163 [.sl true 1 [.i .i64 0, .sl false 0 []]] (.b true) := b_empty1 0 0 [] (fun _ => rfl) (by decide) (by decide)
  have hnb : (l.length + 14) / 15 = MK.nb l := rfl
  have hpn := MK.pts_le l (MK.nb l)
  have hng : MK.ng l ≤ MK.nb l + 1 := by unfold MK.ng; omega
  have hw1 : wc (flat 4 (classG l (MK.nb l))) = (MK.nb l * 4 + 63) / 64 := by unfold wc; rw [flat_length, classG_length]
  have hw2 : wc (MK.offs l (MK.nb l)) = (MK.pts l (MK.nb l) + 63) / 64 := rfl
  have e1 := b_empty2 (L := L) (MK.nb l * 4) (wc (flat 4 (classG l (MK.nb l)))) (wn (flat 4 (classG l (MK.nb l))) (wc (flat 4 (classG l (MK.nb l))))) (MK.pts l (MK.nb l)) (wc (MK.offs l (MK.nb l))) (wn (MK.offs l (MK.nb l)) (wc (MK.offs l (MK.nb l)))) (fun h => by omega) (fun h => by omega) (by omega) (by omega) (by omega) (by omega)
  have hng1 : 1 ≤ MK.ng l := by unfold MK.ng; omega
  clear hw1 hw2
  rw [vec_2]
  simp only [rrrC, zP, zR, zF, zS, List.cons_append, List.nil_append]
  unfold Tryz.f122
  refine go ?_
  refine regL 11 [⟨6, some 1, []⟩, ⟨7, some 2, []⟩, ⟨8, some 3, []⟩, ⟨9, none, [6, 1, 0]⟩, ⟨10, none, [7, 3, 2]⟩] 3 (fun f => [⟨45, 0, .i .i64 2 :: (zP ++ (rrrC l ++ zF)), true⟩, if f 6 = true then ⟨37, 1, if f 9 = true then zP else [.i .i64 0, .ns, .ns, .ns], true⟩ else ⟨0, 0, [], false⟩, if f 7 = true then ⟨41, 1, if f 10 = true then rrrC l else [.i .i64 0, .i .i64 0, .i .i64 0, .i .i64 0, .ns, .i .i64 0, .ns, .ns, .ns], true⟩ else ⟨0, 0, [], false⟩, if f 8 = true then ⟨43, 1, [.i .i64 0, .i .i64 0, .i .i64 0, .i .i64 0, .i .i64 0, .ns, .i .i64 0, .ns], true⟩ else ⟨0, 0, [], false⟩]) (by kernel_rfl) (by kernel_rfl) (by kernel_rfl) (fun f g h => by simp only [h 6 rfl, h 7 rfl, h 8 rfl, h 9 rfl, h 10 rfl]) rfl ?t1 (fun f hf => ?_) ?_
  rotate_left
  · have g6 : f 9 = true → f 6 = true := fun h => hf ⟨9, none, [6, 1, 0]⟩ (by simp) h ⟨6, some 1, []⟩ (by simp) rfl
    have g7 : f 10 = true → f 7 = true := fun h => hf ⟨10, none, [7, 3, 2]⟩ (by simp) h ⟨7, some 2, []⟩ (by simp) rfl
    clear hf
    simp only [plainC, rrrC, fanoC, zP, zR, zF, zS, List.cons_append, List.nil_append]
    cases h9 : f 9 <;> cases h10 : f 10 <;> cases h6 : f 6 <;> cases h7 : f 7 <;> cases h8 : f 8 <;> first | exact absurd (g6 h9) (by rw [h6]; decide) | exact absurd (g7 h10) (by rw [h7]; decide) | (refine gox ?_; first | exact True.intro | rfl)
  simp only [plainC, rrrC, fanoC, zP, zR, zF, zS, List.cons_append, List.nil_append]
  have r2 : ∀ a : List V, List.replicate 2 a = [a, a] := fun _ => rfl
  refine gox ?_
  refine eP.does hL (gox ?_)
  cases hx : (decide (MK.nb l * 4 = 0) && decide (MK.pts l (MK.nb l) = 0))
  · rw [hx] at e1
    refine e1.does hL (gox ?_)
    refine eR.does hL (gox ?_)
    exact fin_
  · rw [hx] at e1
    refine e1.does hL (gox ?_)
    refine eR.does hL (gox ?_)
    exact fin_
end Go.Proofs.E
end
/- The program: rows of bits of one of the kinds: the fields of others are zero (3). -/
section
set_option linter.unusedVariables false
set_option linter.unusedSimpArgs false
set_option linter.unusedSectionVars false
namespace Go.Proofs.E
open Go Go.Proofs.MV Go.Proofs.MI
set_option linter.unusedVariables false
set_option maxRecDepth 10000
variable {L : Nat → (Nat → Option Obj) → Prop}
set_option maxHeartbeats 4000000 in
theorem b_spare3 (l : List Bool) (hl : l.length ≤ 40000) : Pure Tryz.prog L 122 [vecV 3 l] (.b true) := by
  refine pure_of_W Tryz.func122 rfl rfl (by kernel_rfl) [] (by have := vec_below 0 3 l (by simp); intro v hv; rw [List.mem_singleton.1 hv]; exact this) closed fun A hL => ?_
  have eR : Pure Tryz.prog L 163 [.sl true 2 [.i .i64 0, .sl false 0 [], .i .i64 0, .sl false 0 []]] (.b true) := b_empty2 0 0 [] 0 0 [] (fun _ => rfl) (fun _ => rfl) (by decide) (by decide) (by decide) (by decide)
  have eP : Pure Tryz.prog L 163 [.sl true 1 [.i .i64 0, .sl false 0 []]] (.b true) := b_empty1 0 0 [] (fun _ => rfl) (by decide) (by decide)
  have q1 := loF_le l
  have q2 : mF l ≤ l.length := MR.cnt_le l l.length
  have q3 : wF l ≤ 19 := fw_le (by omega)
  have q4 : 1 ≤ dF l ∧ dF l ≤ 19 := by unfold dF; omega
  have q5 : (loF l).length * dF l ≤ 40000 * 19 := Nat.mul_le_mul (by omega) q4.2
  have hln := hiF_length l
  have hnd : l.length / 2 ^ wF l ≤ l.length := Nat.div_le_self _ _
  have hhn : hn l (wF l) = MR.cnt l l.length + l.length / 2 ^ wF l + 1 := rfl
  have h2' := MR.cnt_le l l.length
  have hh1 : 1 ≤ (hiF l).length ∧ (hiF l).length ≤ 1048576 := by
    rw [hln, hhn]
    generalize l.length / 2 ^ wF l = d at *
    omega
  have hw1 : wc (flat (dF l) (loF l)) = ((loF l).length * dF l + 63) / 64 := by unfold wc; rw [flat_length]
  have hw2 : wc (hiF l) = ((hiF l).length + 63) / 64 := rfl
  have e1 := b_empty2 (L := L) ((loF l).length * dF l) (wc (flat (dF l) (loF l))) (wn (flat (dF l) (loF l)) (wc (flat (dF l) (loF l)))) (hiF l).length (wc (hiF l)) (wn (hiF l) (wc (hiF l))) (fun h => by omega) (fun h => by omega) (by omega) (by omega) (by omega) (by omega)
  rw [decide_eq_false (show ¬ (hiF l).length = 0 by omega), Bool.and_false] at e1
  clear hln hnd hhn hw1 hw2
  rw [vec_3]
  simp only [fanoC, zP, zR, zF, zS, List.cons_append, List.nil_append]
  unfold Tryz.f122
  refine go ?_
  refine regL 11 [⟨6, some 1, []⟩, ⟨7, some 2, []⟩, ⟨8, some 3, []⟩, ⟨9, none, [6, 1, 0]⟩, ⟨10, none, [7, 3, 2]⟩] 3 (fun f => [⟨45, 0, .i .i64 3 :: (zP ++ (zR ++ fanoC l)), true⟩, if f 6 = true then ⟨37, 1, if f 9 = true then zP else [.i .i64 0, .ns, .ns, .ns], true⟩ else ⟨0, 0, [], false⟩, if f 7 = true then ⟨41, 1, if f 10 = true then zR else [.i .i64 0, .i .i64 0, .i .i64 0, .i .i64 0, .ns, .i .i64 0, .ns, .ns, .ns], true⟩ else ⟨0, 0, [], false⟩, if f 8 = true then ⟨43, 1, [.i .i64 0, .i .i64 0, .i .i64 0, .i .i64 0, .i .i64 0, .ns, .i .i64 0, .ns], true⟩ else ⟨0, 0, [], false⟩]) (by kernel_rfl) (by kernel_rfl) (by kernel_rfl) (fun f g h => by simp only [h 6 rfl, h 7 rfl, h 8 rfl, h 9 rfl, h 10 rfl]) rfl ?t1 (fun f hf => ?_) ?_
  rotate_left
  · have g6 : f 9 = true → f 6 = true := fun h => hf ⟨9, none, [6, 1, 0]⟩ (by simp) h ⟨6, some 1, []⟩ (by simp) rfl
    have g7 : f 10 = true → f 7 = true := fun h => hf ⟨10, none, [7, 3, 2]⟩ (by simp) h ⟨7, some 2, []⟩ (by simp) rfl
    clear hf
    simp only [plainC, rrrC, fanoC, zP, zR, zF, zS, List.cons_append, List.nil_append]
    cases h9 : f 9 <;> cases h10 : f 10 <;> cases h6 : f 6 <;> cases h7 : f 7 <;> cases h8 : f 8 <;> first | exact absurd (g6 h9) (by rw [h6]; decide) | exact absurd (g7 h10) (by rw [h7]; decide) | (refine gox ?_; first | exact True.intro | rfl)
  simp only [plainC, rrrC, fanoC, zP, zR, zF, zS, List.cons_append, List.nil_append]
  have r2 : ∀ a : List V, List.replicate 2 a = [a, a] := fun _ => rfl
  refine gox ?_
  refine eP.does hL (gox ?_)
  refine eR.does hL (gox ?_)
  refine e1.does hL (gox ?_)
  exact fin_
end Go.Proofs.E
end
/- The program: rows of bits of one of the kinds: all that is asked. -/
section
set_option linter.unusedVariables false
set_option linter.unusedSimpArgs false
set_option linter.unusedSectionVars false
namespace Go.Proofs.E
open Go Go.Proofs.MV Go.Proofs.MI
set_option linter.unusedVariables false
set_option maxRecDepth 10000
variable {L : Nat → (Nat → Option Obj) → Prop}
theorem args_below {n : Nat} {v : V} {l : List V} (h : Below n v) (hl : ∀ u ∈ l, Below n u) : ∀ u ∈ v :: l, Below n u := fun u hu => by
  rcases List.mem_cons.1 hu with e | e
  · subst e; exact h
  · exact hl u e
def vsz (kind : Nat) (l : List Bool) : Nat := if kind = 1 then l.length + 32 * (l.length / 512 + 1) + 16 * wc l else if kind = 2 then MK.nb l * 4 + MK.pts l (MK.nb l) + 64 * MK.ng l else (loF l).length * dF l + (hiF l).length + 64
theorem b_vcheck (hT : ∀ n c, L n c → TabL n c) (kind : Nat) (hk : kind = 1 ∨ kind = 2 ∨ kind = 3) (l : List Bool) (hl : l.length ≤ 40000) : Pure Tryz.prog L 67 [vecV kind l] (.b true) := by
  refine pure_of_W Tryz.func67 rfl rfl (by kernel_rfl) [] (args_below (vec_below 0 kind l hk) closed) closed fun A hL => ?_
  have s1 := b_spare1 (L := L) l hl
  have s2 := b_spare2 (L := L) l hl
  have s3 := b_spare3 (L := L) l hl
  have h1 := b_pcheck (L := L) l (by omega)
  have h2 := b_rcheck (L := L) l (by omega)
  have h3 := b_fcheck (L := L) hT l hl
  unfold plainV rrrV fanoV at *
  unfold Tryz.f67
  rcases hk with rfl | rfl | rfl
  · rw [vec_1] at s1
    rw [vec_1]
    simp only [plainC, zR, zF, zS, List.cons_append, List.nil_append] at h1 s1 ⊢
    refine go ?_
    refine s1.does hL (go ?_)
    refine h1.does hL (go ?_)
    exact fin_
  · rw [vec_2] at s2
    rw [vec_2]
    simp only [rrrC, zP, zF, zS, List.cons_append, List.nil_append] at h2 s2 ⊢
    refine go ?_
    refine s2.does hL (go ?_)
    refine h2.does hL (go ?_)
    exact fin_
  · rw [vec_3] at s3
    rw [vec_3]
    simp only [fanoC, zR, zP, zS, List.cons_append, List.nil_append] at h3 s3 ⊢
    refine go ?_
    refine s3.does hL (go ?_)
    refine h3.does hL (go ?_)
    exact fin_
theorem b_vbits (hT : ∀ n c, L n c → TabL n c) (kind : Nat) (hk : kind = 1 ∨ kind = 2 ∨ kind = 3) (l : List Bool) (hl : l.length ≤ 40000) : Pure Tryz.prog L 82 [vecV kind l] (bitsV l) := by
  refine pure_of_W Tryz.func82 rfl rfl (by kernel_rfl) [] (args_below (vec_below 0 kind l hk) closed) (by unfold bitsV; exact closed) fun A hL => ?_
  have hck := b_vcheck (L := L) hT kind hk l hl
  have h1 := b_pbits (L := L) l (by omega)
  have h2 := b_rbits (L := L) l (by omega)
  have h3 := b_fbits (L := L) hT l hl
  unfold plainV rrrV fanoV bitsV at *
  unfold Tryz.f82
  rcases hk with rfl | rfl | rfl
  · rw [vec_1] at hck
    rw [vec_1]
    simp only [plainC, zR, zF, zS, List.cons_append, List.nil_append] at h1 hck ⊢
    refine go ?_
    refine hck.does hL (go ?_)
    refine h1.does hL (go ?_)
    exact fin_
  · rw [vec_2] at hck
    rw [vec_2]
    simp only [rrrC, zP, zF, zS, List.cons_append, List.nil_append] at h2 hck ⊢
    refine go ?_
    refine hck.does hL (go ?_)
    refine h2.does hL (go ?_)
    exact fin_
  · rw [vec_3] at hck
    rw [vec_3]
    simp only [fanoC, zR, zP, zS, List.cons_append, List.nil_append] at h3 hck ⊢
    refine go ?_
    refine hck.does hL (go ?_)
    refine h3.does hL (go ?_)
    exact fin_
theorem b_vaccess (hT : ∀ n c, L n c → TabL n c) (kind : Nat) (hk : kind = 1 ∨ kind = 2 ∨ kind = 3) (l : List Bool) (hl : l.length ≤ 40000) (i : Nat) (hi : i < l.length) : Pure Tryz.prog L 59 [vecV kind l, .i .i64 i] (.tup [.b (bt l i), .i .i64 0]) := by
  refine pure_of_W Tryz.func59 rfl rfl (by kernel_rfl) [] (args_below (vec_below 0 kind l hk) closed) closed fun A hL => ?_
  have hck := b_vcheck (L := L) hT kind hk l hl
  have h1 := b_paccess (L := L) l (by omega) i hi
  have h2 := b_raccess (L := L) l (by omega) i hi
  have h3 := b_faccess (L := L) hT l hl i hi
  unfold plainV rrrV fanoV at *
  unfold Tryz.f59
  rcases hk with rfl | rfl | rfl
  · rw [vec_1] at hck
    rw [vec_1]
    simp only [plainC, zR, zF, zS, List.cons_append, List.nil_append] at h1 hck ⊢
    refine go ?_
    refine hck.does hL (go ?_)
    refine h1.does hL (go ?_)
    exact fin_
  · rw [vec_2] at hck
    rw [vec_2]
    simp only [rrrC, zP, zF, zS, List.cons_append, List.nil_append] at h2 hck ⊢
    refine go ?_
    refine hck.does hL (go ?_)
    refine h2.does hL (go ?_)
    exact fin_
  · rw [vec_3] at hck
    rw [vec_3]
    simp only [fanoC, zR, zP, zS, List.cons_append, List.nil_append] at h3 hck ⊢
    refine go ?_
    refine hck.does hL (go ?_)
    refine h3.does hL (go ?_)
    exact fin_
theorem b_vrank (hT : ∀ n c, L n c → TabL n c) (kind : Nat) (hk : kind = 1 ∨ kind = 2 ∨ kind = 3) (l : List Bool) (hl : l.length ≤ 40000) (b : Bool) (i : Nat) (hi : i ≤ l.length) : Pure Tryz.prog L 45 [vecV kind l, .b b, .i .i64 i] (.tup [.i .i64 (MR.rk b l i : Nat), .i .i64 0]) := by
  refine pure_of_W Tryz.func45 rfl rfl (by kernel_rfl) [] (args_below (vec_below 0 kind l hk) closed) closed fun A hL => ?_
  have hck := b_vcheck (L := L) hT kind hk l hl
  have h1 := b_prank (L := L) l (by omega) b i hi
  have h2 := b_rrank (L := L) l (by omega) b i hi
  have h3 := b_frank (L := L) hT l hl b i hi
  unfold plainV rrrV fanoV at *
  unfold Tryz.f45
  rcases hk with rfl | rfl | rfl
  · rw [vec_1] at hck
    rw [vec_1]
    simp only [plainC, zR, zF, zS, List.cons_append, List.nil_append] at h1 hck ⊢
    refine go ?_
    refine hck.does hL (go ?_)
    refine h1.does hL (go ?_)
    exact fin_
  · rw [vec_2] at hck
    rw [vec_2]
    simp only [rrrC, zP, zF, zS, List.cons_append, List.nil_append] at h2 hck ⊢
    refine go ?_
    refine hck.does hL (go ?_)
    refine h2.does hL (go ?_)
    exact fin_
  · rw [vec_3] at hck
    rw [vec_3]
    simp only [fanoC, zR, zP, zS, List.cons_append, List.nil_append] at h3 hck ⊢
    refine go ?_
    refine hck.does hL (go ?_)
    refine h3.does hL (go ?_)
    exact fin_
theorem b_vselect (hT : ∀ n c, L n c → TabL n c) (kind : Nat) (hk : kind = 1 ∨ kind = 2 ∨ kind = 3) (l : List Bool) (hl : l.length ≤ 40000) (b : Bool) (k p : Nat) (hs : MR.Sel b l k p) : Pure Tryz.prog L 46 [vecV kind l, .b b, .i .i64 k] (.tup [.i .i64 p, .i .i64 0]) := by
  refine pure_of_W Tryz.func46 rfl rfl (by kernel_rfl) [] (args_below (vec_below 0 kind l hk) closed) closed fun A hL => ?_
  have hck := b_vcheck (L := L) hT kind hk l hl
  have h1 := b_pselect (L := L) hT l (by omega) b k p hs
  have h2 := b_rselect (L := L) hT l (by omega) b k p hs
  have h3 := b_fselect (L := L) hT l hl b k p hs
  unfold plainV rrrV fanoV at *
  unfold Tryz.f46
  rcases hk with rfl | rfl | rfl
  · rw [vec_1] at hck
    rw [vec_1]
    simp only [plainC, zR, zF, zS, List.cons_append, List.nil_append] at h1 hck ⊢
    refine go ?_
    refine hck.does hL (go ?_)
    refine h1.does hL (go ?_)
    exact fin_
  · rw [vec_2] at hck
    rw [vec_2]
    simp only [rrrC, zP, zF, zS, List.cons_append, List.nil_append] at h2 hck ⊢
    refine go ?_
    refine hck.does hL (go ?_)
    refine h2.does hL (go ?_)
    exact fin_
  · rw [vec_3] at hck
    rw [vec_3]
    simp only [fanoC, zR, zP, zS, List.cons_append, List.nil_append] at h3 hck ⊢
    refine go ?_
    refine hck.does hL (go ?_)
    refine h3.does hL (go ?_)
    exact fin_
theorem b_vsize (hT : ∀ n c, L n c → TabL n c) (kind : Nat) (hk : kind = 1 ∨ kind = 2 ∨ kind = 3) (l : List Bool) (hl : l.length ≤ 40000) : Pure Tryz.prog L 41 [vecV kind l] (.i .i64 (vsz kind l : Nat)) := by
  refine pure_of_W Tryz.func41 rfl rfl (by kernel_rfl) [] (args_below (vec_below 0 kind l hk) closed) closed fun A hL => ?_
  have hck := b_vcheck (L := L) hT kind hk l hl
  have h1 := b_psize (L := L) l (by omega)
  have h2 := b_rsize (L := L) l (by omega)
  have h3 := b_fsize (L := L) hT l hl
  unfold plainV rrrV fanoV at *
  unfold Tryz.f41
  rcases hk with rfl | rfl | rfl
  · rw [vec_1] at hck
    rw [show vsz 1 l = l.length + 32 * (l.length / 512 + 1) + 16 * wc l from rfl]
    rw [vec_1]
    simp only [plainC, zR, zF, zS, List.cons_append, List.nil_append] at h1 hck ⊢
    refine go ?_
    refine hck.does hL (go ?_)
    refine h1.does hL (go ?_)
    exact fin_
  · rw [vec_2] at hck
    rw [show vsz 2 l = MK.nb l * 4 + MK.pts l (MK.nb l) + 64 * MK.ng l from rfl]
    rw [vec_2]
    simp only [rrrC, zP, zF, zS, List.cons_append, List.nil_append] at h2 hck ⊢
    refine go ?_
    refine hck.does hL (go ?_)
    refine h2.does hL (go ?_)
    exact fin_
  · rw [vec_3] at hck
    rw [show vsz 3 l = (loF l).length * dF l + (hiF l).length + 64 from rfl]
    rw [vec_3]
    simp only [fanoC, zR, zP, zS, List.cons_append, List.nil_append] at h3 hck ⊢
    refine go ?_
    refine hck.does hL (go ?_)
    refine h3.does hL (go ?_)
    exact fin_
end Go.Proofs.E
end
/- A text along the highest bits of its symbols; in plain Lean. Of no function of the program. -/
section
set_option linter.unusedVariables false
set_option linter.unusedSimpArgs false
set_option linter.unusedSectionVars false
namespace Go.Proofs.MT
open Go.Proofs.MV Go.Proofs.MR
set_option linter.unusedVariables false
/-- Places 0 .. n - 1, by a number that each has, likes as they stand; those of numbers below v. -/
def blk (K : Nat → Nat) (n v : Nat) : List Nat := (List.range n).filter fun i => K i == v
def ordTo (K : Nat → Nat) (n : Nat) : Nat → List Nat
  | 0 => []
  | v + 1 => ordTo K n v ++ blk K n v
theorem mem_blk {K : Nat → Nat} {n v i : Nat} : i ∈ blk K n v ↔ i < n ∧ K i = v := by
  unfold blk; rw [List.mem_filter, List.mem_range, beq_iff_eq]
theorem mem_ordTo {K : Nat → Nat} {n i : Nat} : ∀ {v}, i ∈ ordTo K n v ↔ i < n ∧ K i < v
  | 0 => by simp [ordTo]
  | v + 1 => by
    show i ∈ ordTo K n v ++ blk K n v ↔ _
    rw [List.mem_append, mem_ordTo, mem_blk]; omega
def ahead (K : Nat → Nat) (i j : Nat) : Prop := K i < K j ∨ K i = K j ∧ i < j
theorem ordTo_pw (K : Nat → Nat) (n : Nat) : ∀ v, (ordTo K n v).Pairwise (ahead K)
  | 0 => List.Pairwise.nil
  | v + 1 => by
    show (ordTo K n v ++ blk K n v).Pairwise _
    rw [List.pairwise_append]
    refine ⟨ordTo_pw K n v, ?_, fun i hi j hj => .inl ?_⟩
    · refine List.Pairwise.imp_of_mem ?_ (List.Pairwise.filter _ List.pairwise_lt_range)
      intro i j hi hj hij
      exact .inr ⟨(mem_blk.1 hi).2.trans (mem_blk.1 hj).2.symm, hij⟩
    · have := (mem_ordTo.1 hi).2; have := (mem_blk.1 hj).2; omega
theorem ordTo_nodup (K : Nat → Nat) (n v : Nat) : (ordTo K n v).Nodup := by
  refine List.Pairwise.imp ?_ (ordTo_pw K n v)
  rintro a b h rfl
  unfold ahead at h; omega
theorem ordTo_perm (K : Nat → Nat) (n m : Nat) (h : ∀ i, i < n → K i < m) : (ordTo K n m).Perm (List.range n) := by
  rw [List.perm_ext_iff_of_nodup (ordTo_nodup K n m) List.nodup_range]
  intro i
  rw [mem_ordTo, List.mem_range]
  exact ⟨fun x => x.1, fun x => ⟨x, h i x⟩⟩
theorem ordTo_length (K : Nat → Nat) (n m : Nat) (h : ∀ i, i < n → K i < m) : (ordTo K n m).length = n := by
  rw [(ordTo_perm K n m h).length_eq, List.length_range]
/-- Whatever is so ordered is it. -/
theorem ordTo_uniq (K : Nat → Nat) (n m : Nat) (h : ∀ i, i < n → K i < m) (l : List Nat) (hp : l.Perm (List.range n)) (hs : l.Pairwise (ahead K)) : l = ordTo K n m := by
  refine List.Perm.eq_of_pairwise (le := ahead K) (fun a b _ _ h1 h2 => ?_) hs (ordTo_pw K n m) (hp.trans (ordTo_perm K n m h).symm)
  unfold ahead at h1 h2; omega
/-! ### Symbols' highest bits -/
def key (l c : Nat) : Nat := c / 2 ^ (8 - l)
def bitA (l c : Nat) : Bool := c.testBit (7 - l)
theorem key_zero {c : Nat} (h : c < 256) : key 0 c = 0 := by unfold key; omega
theorem key_eight (c : Nat) : key 8 c = c := by unfold key; simp
theorem key_succ (l c : Nat) (h : l < 8) : key (l + 1) c = 2 * key l c + (bitA l c).toNat := by
  unfold key bitA
  rw [Nat.testBit_eq_decide_div_mod_eq, show 8 - (l + 1) = 7 - l by omega, show 8 - l = 7 - l + 1 by omega, Nat.pow_succ, ← Nat.div_div_eq_div_mul]
  generalize c / 2 ^ (7 - l) = y
  by_cases h : y % 2 = 1
  · simp [h]; omega
  · simp [h]; omega
theorem key_lt (l c : Nat) (hl : l ≤ 8) (h : c < 256) : key l c < 2 ^ l := by
  unfold key
  rw [Nat.div_lt_iff_lt_mul (Nat.two_pow_pos _), ← Nat.pow_add, show l + (8 - l) = 8 by omega]
  exact h
section
variable (t : List Nat)
def K (l i : Nat) : Nat := key l (t.getD i 0)
/-- The places, by their symbols' highest l bits; the row of bits of level l. -/
def pos (l : Nat) : List Nat := ordTo (K t l) t.length (2 ^ l)
def lev (l : Nat) : List Bool := (pos t l).map fun i => bitA l (t.getD i 0)
def from_ (l v : Nat) : Nat := (ordTo (K t l) t.length v).length
def many (l v : Nat) : Nat := (blk (K t l) t.length v).length
/-- Those of a node among the first i of the text. -/
def firsts (l v i : Nat) : Nat := (blk (K t l) i v).length
end
structure Bytes (t : List Nat) : Prop where
  lt : ∀ i, i < t.length → t.getD i 0 < 256
theorem K_lt {t : List Nat} (ht : Bytes t) {l : Nat} (hl : l ≤ 8) : ∀ i, i < t.length → K t l i < 2 ^ l := fun i hi => key_lt l _ hl (ht.lt i hi)
theorem pos_length {t : List Nat} (ht : Bytes t) {l : Nat} (hl : l ≤ 8) : (pos t l).length = t.length := ordTo_length _ _ _ (K_lt ht hl)
theorem lev_length {t : List Nat} (ht : Bytes t) {l : Nat} (hl : l ≤ 8) : (lev t l).length = t.length := by unfold lev; rw [List.length_map, pos_length ht hl]
theorem pos_zero {t : List Nat} (ht : Bytes t) : pos t 0 = List.range t.length := by
  symm
  refine ordTo_uniq _ _ _ (K_lt ht (by omega)) _ (List.Perm.refl _) ?_
  refine List.Pairwise.imp_of_mem ?_ List.pairwise_lt_range
  intro a b ha hb h
  unfold ahead K
  rw [key_zero (ht.lt a (List.mem_range.1 ha)), key_zero (ht.lt b (List.mem_range.1 hb))]
  exact .inr ⟨rfl, h⟩
theorem ordTo_add (K : Nat → Nat) (n v : Nat) : ∀ d, ∃ r, ordTo K n (v + d) = ordTo K n v ++ r
  | 0 => ⟨[], by simp⟩
  | d + 1 => by
    obtain ⟨r, hr⟩ := ordTo_add K n v d
    exact ⟨r ++ blk K n (v + d), by show ordTo K n (v + d) ++ blk K n (v + d) = _; rw [hr, List.append_assoc]⟩
/-- A node stands in one piece. -/
theorem pos_node {t : List Nat} {l v : Nat} (hv : v < 2 ^ l) : ∃ r, pos t l = ordTo (K t l) t.length v ++ (blk (K t l) t.length v ++ r) := by
  obtain ⟨r, hr⟩ := ordTo_add (K t l) t.length (v + 1) (2 ^ l - (v + 1))
  refine ⟨r, ?_⟩
  unfold pos
  rw [show 2 ^ l = v + 1 + (2 ^ l - (v + 1)) by omega, hr]
  show (ordTo _ _ v ++ blk _ _ v) ++ r = _
  rw [List.append_assoc]
theorem bt_map {α : Type} (f : α → Bool) (l : List α) (i : Nat) (h : i < l.length) : bt (l.map f) i = f l[i] := by
  unfold bt
  rw [List.getD_eq_getElem?_getD, List.getElem?_map, List.getElem?_eq_getElem h]; rfl
theorem cnt_pre (a b : List Bool) : ∀ i, i ≤ a.length → cnt (a ++ b) i = cnt a i
  | 0, _ => rfl
  | i + 1, h => by
    show cnt (a ++ b) i + (bt (a ++ b) i).toNat = cnt a i + (bt a i).toNat
    rw [cnt_pre a b i (by omega), bt_append, if_pos (by omega)]
theorem cnt_add (a b : List Bool) : ∀ i, cnt (a ++ b) (a.length + i) = cnt a a.length + cnt b i
  | 0 => cnt_pre a b _ (Nat.le_refl _)
  | i + 1 => by
    show cnt (a ++ b) (a.length + i) + (bt (a ++ b) (a.length + i)).toNat = cnt a a.length + (cnt b i + (bt b i).toNat)
    rw [cnt_add a b i, bt_append, if_neg (by omega), Nat.add_sub_cancel_left]; omega
/-- The bits of a node; ones among its first i. -/
def node (t : List Nat) (l v : Nat) : List Bool := (blk (K t l) t.length v).map fun i => bitA l (t.getD i 0)
theorem lev_node {t : List Nat} {l v : Nat} (hv : v < 2 ^ l) : ∃ a r, lev t l = a ++ (node t l v ++ r) ∧ a.length = from_ t l v := by
  obtain ⟨r, hr⟩ := pos_node (t := t) hv
  refine ⟨(ordTo (K t l) t.length v).map fun i => bitA l (t.getD i 0), r.map fun i => bitA l (t.getD i 0), ?_, List.length_map _⟩
  unfold lev node
  rw [hr, List.map_append, List.map_append]
theorem ones_node {t : List Nat} {l v : Nat} (hv : v < 2 ^ l) {i : Nat} (hi : i ≤ many t l v) : cnt (lev t l) (from_ t l v + i) = cnt (lev t l) (from_ t l v) + cnt (node t l v) i := by
  obtain ⟨a, r, h, ha⟩ := lev_node (t := t) hv
  rw [h, ← ha, cnt_add, cnt_pre _ _ i (by unfold node; rw [List.length_map]; exact hi)]
  have := cnt_add a (node t l v ++ r) 0
  rw [Nat.add_zero] at this
  rw [this]; rfl
theorem bit_node {t : List Nat} {l v : Nat} (hv : v < 2 ^ l) {i : Nat} (hi : i < many t l v) : bt (lev t l) (from_ t l v + i) = bt (node t l v) i := by
  obtain ⟨a, r, h, ha⟩ := lev_node (t := t) hv
  have hl : i < (node t l v).length := by unfold node; rw [List.length_map]; exact hi
  rw [h, ← ha, bt_append, if_neg (by omega), Nat.add_sub_cancel_left, bt_append, if_pos hl]
/-! ### From a node to the one below -/
theorem blk_snoc (K : Nat → Nat) (i v : Nat) : blk K (i + 1) v = blk K i v ++ if K i = v then [i] else [] := by
  unfold blk
  rw [List.range_succ, List.filter_append]
  congr 1
  by_cases h : K i = v
  · simp [h]
  · simp [h]
theorem firsts_succ (t : List Nat) (l v i : Nat) : firsts t l v (i + 1) = firsts t l v i + if K t l i = v then 1 else 0 := by
  unfold firsts
  rw [blk_snoc, List.length_append]; split <;> rfl
theorem firsts_zero (t : List Nat) (l v : Nat) : firsts t l v 0 = 0 := rfl
theorem firsts_all (t : List Nat) (l v : Nat) : firsts t l v t.length = many t l v := rfl
theorem firsts_mono (t : List Nat) (l v : Nat) {i j : Nat} (h : i ≤ j) : firsts t l v i ≤ firsts t l v j := by
  induction h with
  | refl => exact Nat.le_refl _
  | step _ ih => rw [Nat.succ_eq_add_one, firsts_succ]; omega
theorem blk_pre (K : Nat → Nat) (v i : Nat) : ∀ d, ∃ r, blk K (i + d) v = blk K i v ++ r
  | 0 => ⟨[], by simp⟩
  | d + 1 => by
    obtain ⟨r, hr⟩ := blk_pre K v i d
    exact ⟨r ++ if K (i + d) = v then [i + d] else [], by rw [← Nat.add_assoc, blk_snoc, hr, List.append_assoc]⟩
theorem firsts_le (t : List Nat) (l v i : Nat) (h : i ≤ t.length) : firsts t l v i ≤ many t l v := firsts_mono t l v h
/-- Ones among a node's symbols of the first i: those of the node below, to the right. -/
theorem node_ones {t : List Nat} {l v : Nat} (hl : l < 8) : ∀ i, i ≤ t.length → cnt (node t l v) (firsts t l v i) = firsts t (l + 1) (2 * v + 1) i
  | 0, _ => rfl
  | i + 1, h => by
    have ih := node_ones (t := t) (v := v) hl i (by omega)
    have hk := key_succ l (t.getD i 0) hl
    rw [firsts_succ, firsts_succ, ← ih]
    change K t (l + 1) i = 2 * K t l i + _ at hk
    by_cases hv : K t l i = v
    · rw [if_pos hv]
      obtain ⟨r, hr⟩ := blk_pre (K t l) v (i + 1) (t.length - (i + 1))
      rw [show i + 1 + (t.length - (i + 1)) = t.length by omega, blk_snoc, if_pos hv] at hr
      have hb : bt (node t l v) (firsts t l v i) = bitA l (t.getD i 0) := by
        have hlt : firsts t l v i < (blk (K t l) t.length v).length := by rw [hr]; unfold firsts; simp
        unfold node
        rw [bt_map _ _ _ hlt]
        congr 2
        simp only [hr]
        unfold firsts
        simp
      show cnt (node t l v) (firsts t l v i) + (bt (node t l v) (firsts t l v i)).toNat = _
      rw [hb, hk, hv]
      cases bitA l (t.getD i 0)
      · rw [if_neg (by simp)]; rfl
      · rw [if_pos (by simp)]; rfl
    · rw [if_neg hv, if_neg (by have := Bool.toNat_lt (bitA l (t.getD i 0)); omega)]
      simp
theorem firsts_split {t : List Nat} {l v : Nat} (hl : l < 8) : ∀ i, firsts t l v i = firsts t (l + 1) (2 * v) i + firsts t (l + 1) (2 * v + 1) i
  | 0 => rfl
  | i + 1 => by
    have hk := key_succ l (t.getD i 0) hl
    change K t (l + 1) i = 2 * K t l i + _ at hk
    have := Bool.toNat_lt (bitA l (t.getD i 0))
    rw [firsts_succ, firsts_succ, firsts_succ, firsts_split hl i]
    by_cases hv : K t l i = v
    · rw [if_pos hv]
      cases hb : bitA l (t.getD i 0) <;> rw [hb] at hk <;> simp at hk
      · rw [if_pos (by omega), if_neg (by omega)]; omega
      · rw [if_neg (by omega), if_pos (by omega)]; omega
    · rw [if_neg hv, if_neg (by omega), if_neg (by omega)]; omega
theorem many_split {t : List Nat} {l v : Nat} (hl : l < 8) : many t l v = many t (l + 1) (2 * v) + many t (l + 1) (2 * v + 1) := firsts_split hl t.length
theorem from_zero (t : List Nat) (l : Nat) : from_ t l 0 = 0 := rfl
theorem from_succ (t : List Nat) (l v : Nat) : from_ t l (v + 1) = from_ t l v + many t l v := by
  unfold from_ many
  show (ordTo _ _ v ++ blk _ _ v).length = _
  rw [List.length_append]
theorem from_left {t : List Nat} {l : Nat} (hl : l < 8) : ∀ v, from_ t (l + 1) (2 * v) = from_ t l v
  | 0 => rfl
  | v + 1 => by
    rw [show 2 * (v + 1) = 2 * v + 1 + 1 by omega, from_succ, from_succ, from_succ, from_left hl v, many_split hl]; omega
theorem from_right {t : List Nat} {l : Nat} (hl : l < 8) (v : Nat) : from_ t (l + 1) (2 * v + 1) = from_ t l v + many t (l + 1) (2 * v) := by rw [from_succ, from_left hl]
theorem from_le {t : List Nat} (ht : Bytes t) {l v : Nat} (hl : l ≤ 8) (hv : v < 2 ^ l) : from_ t l v + many t l v ≤ t.length := by
  obtain ⟨r, hr⟩ := pos_node (t := t) hv
  have := pos_length ht hl
  rw [hr, List.length_append, List.length_append] at this
  unfold from_ many; omega
/-- All symbols: one node; the last level's node: those that are c. -/
theorem many_root {t : List Nat} (ht : Bytes t) : ∀ i, i ≤ t.length → firsts t 0 0 i = i
  | 0, _ => rfl
  | i + 1, h => by rw [firsts_succ, many_root ht i (Nat.le_of_succ_le h), if_pos (by unfold K; exact key_zero (ht.lt i h))]
theorem firsts_leaf (t : List Nat) (c : Nat) : ∀ i, i ≤ t.length → firsts t 8 c i = (t.take i).count c
  | 0, _ => by simp [firsts_zero]
  | i + 1, h => by
    have hi : i < t.length := by omega
    have e : K t 8 i = t[i] := by unfold K; rw [key_eight, List.getD_eq_getElem?_getD, List.getElem?_eq_getElem hi]; rfl
    rw [firsts_succ, firsts_leaf t c i (by omega), List.take_succ_eq_append_getElem hi, List.count_append, e, List.count_singleton]
    by_cases q : t[i] = c
    · simp [q]
    · simp [q]
end Go.Proofs.MT
end
/- The program: texts in eight rows of bits: nodes. -/
section
set_option linter.unusedVariables false
set_option linter.unusedSimpArgs false
set_option linter.unusedSectionVars false
namespace Go.Proofs.E
open Go Go.Proofs.MV Go.Proofs.MI
set_option linter.unusedVariables false
set_option maxRecDepth 10000
variable {L : Nat → (Nat → Option Obj) → Prop}
abbrev Kind (k : Nat) : Prop := k = 1 ∨ k = 2 ∨ k = 3
theorem vec_one (kind : Nat) (hk : Kind kind) (l : List Bool) : (vecC kind l).all V.one = true := by rcases hk with rfl | rfl | rfl <;> rfl
theorem vec_length (kind : Nat) (hk : Kind kind) (l : List Bool) : (vecC kind l).length = 22 := by rcases hk with rfl | rfl | rfl <;> rfl
theorem vec_all (n kind : Nat) (hk : Kind kind) (l : List Bool) : ∀ v ∈ vecC kind l, Below n v := (below_agg n _).1 (vec_below n kind l hk)
theorem b_tones (hT : ∀ n c, L n c → TabL n c) (kind : Nat) (hk : Kind kind) (l : List Bool) (hl : l.length ≤ 40000) (i : Nat) (hi : i ≤ l.length) : Pure Tryz.prog L 114 [vecV kind l, .i .i64 i] (.i .i64 (MR.cnt l i : Nat)) := by
  refine pure_of_W Tryz.func114 rfl rfl (by kernel_rfl) [] (args_below (vec_below 0 kind l hk) closed) closed fun A hL => ?_
  have h1 := b_vrank (L := L) hT kind hk l hl true i hi
  have hone := vec_one kind hk l
  have hlen := vec_length kind hk l
  rw [show MR.rk true l i = MR.cnt l i from rfl] at h1
  unfold vecV at *
  unfold Tryz.f114
  refine gox ?_
  refine h1.does hL (gox ?_)
  exact fin_
theorem b_down (hT : ∀ n c, L n c → TabL n c) (kind : Nat) (hk : Kind kind) (l : List Bool) (hl : l.length ≤ 40000) (fr n i : Nat) (hn : fr + n ≤ l.length) (hi : i ≤ n) (b : Bool) : Pure Tryz.prog L 60 [vecV kind l, .agg [.i .i64 fr, .i .i64 n], .b b, .i .i64 i]
    (.tup [if b = true then .agg [.i .i64 (fr + n - (MR.cnt l (fr + n) - MR.cnt l fr) : Nat), .i .i64 (MR.cnt l (fr + n) - MR.cnt l fr : Nat)] else .agg [.i .i64 fr, .i .i64 (n - (MR.cnt l (fr + n) - MR.cnt l fr) : Nat)], if b = true then .i .i64 (MR.cnt l (fr + i) - MR.cnt l fr : Nat) else .i .i64 (i - (MR.cnt l (fr + i) - MR.cnt l fr) : Nat)]) := by
  refine pure_of_W Tryz.func60 rfl rfl (by kernel_rfl) [] (args_below (vec_below 0 kind l hk) closed) (by cases b <;> (simp only [reduceIte, Bool.false_eq_true]; exact closed)) fun A hL => ?_
  have h0 := b_tones (L := L) hT kind hk l hl fr (by omega)
  have h1 := b_tones (L := L) hT kind hk l hl (fr + n) (by omega)
  have h2 := b_tones (L := L) hT kind hk l hl (fr + i) (by omega)
  have hone := vec_one kind hk l
  have hlen := vec_length kind hk l
  have m1 := MR.cnt_mono l (show fr ≤ fr + n by omega)
  have m2 := MR.cnt_mono l (show fr ≤ fr + i by omega)
  have m3 := MR.cnt_gap l fr n
  have m4 := MR.cnt_gap l fr i
  have m5 := MR.cnt_le l fr
  unfold vecV at *
  unfold Tryz.f60
  refine gox ?_
  refine h0.does hL (gox ?_)
  refine regD 19 (by kernel_rfl) (by kernel_rfl) (gox ?_)
  refine ⟨_, h1.does hL ⟨rfl, rfl⟩, ?_⟩
  refine gox ?_
  refine ⟨_, h2.does hL ⟨rfl, rfl⟩, ?_⟩
  refine gox ?_
  cases b
  · refine gox ?_
    exact fin_
  · refine gox ?_
    exact fin_
theorem flat_get {α : Type} (z : Nat) : ∀ (ls : List (List α)) (i : Nat) (h : i < ls.length), (∀ l ∈ ls, l.length = z) → (ls.flatten.drop (i * z)).take z = ls[i]
  | l :: ls, 0, _, hz => by
    have h := hz l (List.mem_cons_self ..)
    rw [Nat.zero_mul, List.drop_zero, List.flatten_cons, List.take_append_of_le_length (by omega), List.take_of_length_le (by omega)]; rfl
  | l :: ls, i + 1, hi, hz => by
    have h := hz l (List.mem_cons_self ..)
    have hi' : i < ls.length := by simpa using hi
    rw [List.flatten_cons, Nat.succ_mul, List.drop_append, h]
    have e1 : l.drop (i * z + z) = [] := List.drop_of_length_le (by omega)
    rw [e1, List.nil_append, Nat.add_sub_cancel]
    exact flat_get z ls i hi' fun l hl => hz l (List.mem_cons_of_mem _ hl)
def levC (kind : Nat) (t : List Nat) (m : Nat) : List V := ((List.range m).map fun l => vecC kind (MT.lev t l)).flatten
theorem levC_get (kind : Nat) (hk : Kind kind) (t : List Nat) {m l : Nat} (h : l < m) : ((levC kind t m).drop (l * 22)).take 22 = vecC kind (MT.lev t l) := by
  unfold levC
  rw [flat_get 22 _ l (by simp [h]) (fun x hx => by obtain ⟨j, _, rfl⟩ := List.mem_map.1 hx; exact vec_length kind hk _)]
  simp
theorem levC_length (kind : Nat) (hk : Kind kind) (t : List Nat) : ∀ m, (levC kind t m).length = m * 22
  | 0 => rfl
  | m + 1 => by
    have e : levC kind t (m + 1) = levC kind t m ++ vecC kind (MT.lev t m) := by
      unfold levC; rw [List.range_succ, List.map_append, List.flatten_append]; simp
    rw [e, List.length_append, levC_length kind hk t m, vec_length kind hk]; omega
theorem levC_below (n kind : Nat) (hk : Kind kind) (t : List Nat) (m : Nat) : ∀ v ∈ levC kind t m, Below n v := all_flat n _ fun l hl => by
  obtain ⟨j, _, rfl⟩ := List.mem_map.1 hl
  exact vec_all n kind hk _
/-- One, made of a text. -/
def treeV (kind : Nat) (t : List Nat) : V := .agg [.i .i64 kind, .i .i64 t.length, .sl false 8 (levC kind t 8)]
theorem tree_below (n kind : Nat) (hk : Kind kind) (t : List Nat) : Below n (treeV kind t) := .agg fun v hv => by
  rcases List.mem_cons.1 hv with e | hv
  · subst e; exact .i _ _
  · rcases List.mem_cons.1 hv with e | hv
    · subst e; exact .i _ _
    · rw [List.mem_singleton.1 hv]; exact .sl (levC_below n kind hk t 8)
end Go.Proofs.E
end
/- The program: texts in eight rows of bits: symbols. -/
section
set_option linter.unusedVariables false
set_option linter.unusedSimpArgs false
set_option linter.unusedSectionVars false
namespace Go.Proofs.E
open Go Go.Proofs.MV Go.Proofs.MI
set_option linter.unusedVariables false
set_option maxRecDepth 10000
variable {L : Nat → (Nat → Option Obj) → Prop}
theorem node_at {t : List Nat} {l v i : Nat} (h : i < t.length) (hk : MT.K t l i = v) : bt (MT.node t l v) (MT.firsts t l v i) = MT.bitA l (t.getD i 0) ∧ MT.firsts t l v i < MT.many t l v := by
  obtain ⟨r, hr⟩ := MT.blk_pre (MT.K t l) v (i + 1) (t.length - (i + 1))
  rw [show i + 1 + (t.length - (i + 1)) = t.length by omega, MT.blk_snoc, if_pos hk] at hr
  constructor
  · unfold MT.node MT.firsts
    rw [hr]
    unfold bt
    rw [List.getD_eq_getElem?_getD, List.getElem?_map, List.append_assoc, List.getElem?_append_right (Nat.le_refl _), Nat.sub_self]
    rfl
  · unfold MT.many MT.firsts
    rw [hr]; simp
theorem frn_vec (P : Program) (H : Heap) (n0 n kind : Nat) (hk : Kind kind) (l : List Bool) : (vecC kind l).map (frn P H n0 (n + 2)) = vecC kind l := by
  rcases hk with rfl | rfl | rfl <;> simp [vecC, plainC, rrrC, fanoC, zP, zR, zF, zS, frn, frn_nums]
theorem frn_lev (P : Program) (H : Heap) (n0 n kind : Nat) (hk : Kind kind) (t : List Nat) (m : Nat) : (levC kind t m).map (frn P H n0 (n + 2)) = levC kind t m := by
  unfold levC
  rw [List.map_flatten, List.map_map]
  congr 1
  exact List.map_congr_left fun l _ => frn_vec P H n0 n kind hk _
theorem spl_all {cs vs : List V} (h : vs.length = cs.length) (h1 : 1 < vs.length) : spl cs 0 vs = vs := by
  match vs with
  | [] => simp at h1
  | [x] => simp at h1
  | x :: y :: r =>
    show cs.take 0 ++ (x :: y :: r) ++ cs.drop (0 + (x :: y :: r).length) = _
    rw [Nat.zero_add, h]; simp
/-- What a step down tells. -/
theorem down_at {t : List Nat} (ht : MT.Bytes t) {l v : Nat} (hl : l < 8) (hv : v < 2 ^ l) (i : Nat) (hi : i ≤ t.length) :
    MR.cnt (MT.lev t l) (MT.from_ t l v + MT.many t l v) - MR.cnt (MT.lev t l) (MT.from_ t l v) = MT.many t (l + 1) (2 * v + 1) ∧
    MR.cnt (MT.lev t l) (MT.from_ t l v + MT.firsts t l v i) - MR.cnt (MT.lev t l) (MT.from_ t l v) = MT.firsts t (l + 1) (2 * v + 1) i := by
  have h1 := MT.ones_node (t := t) hv (i := MT.many t l v) (Nat.le_refl _)
  have h2 := MT.ones_node (t := t) hv (i := MT.firsts t l v i) (MT.firsts_le t l v i hi)
  have h3 := MT.node_ones (t := t) (v := v) hl t.length (Nat.le_refl _)
  have h4 := MT.node_ones (t := t) (v := v) hl i hi
  rw [MT.firsts_all, MT.firsts_all] at h3
  exact ⟨by omega, by omega⟩
theorem b_symbol (hT : ∀ n c, L n c → TabL n c) (kind : Nat) (hk : Kind kind) (t : List Nat) (ht : MT.Bytes t) (hl : t.length ≤ 40000) (i : Nat) (hi : i < t.length) : Pure Tryz.prog L 35 [treeV kind t, .i .i64 i] (.i .u8 (t.getD i 0 : Nat)) := by
  refine pure_of_W Tryz.func35 rfl rfl (by kernel_rfl) [] (args_below (tree_below 0 kind hk t) closed) closed fun A hL => ?_
  have hlc := levC_length kind hk t 8
  have hlev := fun l (h : l < 8) => levC_get kind hk t (m := 8) h
  have hll := fun l (h : l < 8) => MT.lev_length ht (l := l) (by omega)
  have hacc := fun l (h : l < 8) p hp => b_vaccess (L := L) hT kind hk (MT.lev t l) (by rw [hll l h]; omega) p hp
  have hdn := fun l (h : l < 8) fr n j h1 h2 b => b_down (L := L) hT kind hk (MT.lev t l) (by rw [hll l h]; omega) fr n j h1 h2 b
  unfold treeV vecV at *
  unfold Tryz.f35
  have hfr := fun H n0 => frn_lev Tryz.prog H n0 3 kind hk t 8
  refine gox ?_
  refine loop_ (fun l : Nat => ⟨[(1, .i .i64 (MT.firsts t l (MT.K t l i) i : Nat)), (5, .p 1 0 0), (6, .i .u8 (MT.K t l i : Nat)), (15, .sl false 8 (levC kind t 8)), (16, .i .i64 8), (17, .i .i64 l)], [⟨26, 0, [.i .i64 kind, .i .i64 t.length, .sl false 8 (levC kind t 8)], true⟩, ⟨79, 0, [.i .i64 (MT.from_ t l (MT.K t l i) : Nat), .i .i64 (MT.many t l (MT.K t l i) : Nat)], true⟩]⟩) (fun l => l ≤ 8) (fun l => 8 - l) 0 (Nat.zero_le _) (le_slots' (Nat.zero_le _) ?_ (go ?_)) fun l hl8 => ?_
  · have hk0 : MT.K t 0 i = 0 := MT.key_zero (ht.lt i hi)
    have hm := MT.many_root ht t.length (Nat.le_refl _)
    rw [MT.firsts_all] at hm
    rw [hk0, hm]; rfl
  · exact ⟨MT.many_root ht i (by omega) |> fun h => by rw [show MT.K t 0 i = 0 from MT.key_zero (ht.lt i hi)]; exact h, MT.key_zero (ht.lt i hi)⟩
  have hkl := MT.K_lt ht hl8 i hi
  have hp8 : 2 ^ l ≤ 2 ^ 8 := Nat.pow_le_pow_right (by decide) hl8
  refine go ?_
  refine ⟨fun h1 => ?_, fun h1 => ?_⟩
  · have e1 := hlev l h1
    have e2 := vec_one kind hk (MT.lev t l)
    have e3 := vec_length kind hk (MT.lev t l)
    have hsp : spl [.i .i64 0, .i .i64 0, .ns, .ns, .ns, .i .i64 0, .i .i64 0, .i .i64 0, .i .i64 0, .ns, .i .i64 0, .ns, .ns, .ns, .i .i64 0, .i .i64 0, .i .i64 0, .i .i64 0, .i .i64 0, .ns, .i .i64 0, .ns] 0 (vecC kind (MT.lev t l)) = vecC kind (MT.lev t l) := spl_all (by rw [e3]; rfl) (by omega)
    obtain ⟨na, nb⟩ := node_at (t := t) (l := l) hi rfl
    have hfl := MT.from_le ht hl8 hkl
    have hbn := MT.bit_node (t := t) hkl nb
    rw [na] at hbn
    have ha := hacc l h1 (MT.from_ t l (MT.K t l i) + MT.firsts t l (MT.K t l i) i) (by rw [hll l h1]; omega)
    rw [hbn] at ha
    have hd := hdn l h1 (MT.from_ t l (MT.K t l i)) (MT.many t l (MT.K t l i)) (MT.firsts t l (MT.K t l i) i) (by rw [hll l h1]; exact hfl) (by omega)
    obtain ⟨d1, d2⟩ := down_at ht h1 hkl i (by omega)
    rw [d1, d2] at hd
    clear d1 d2
    have hp7 : 2 ^ l ≤ 2 ^ 7 := Nat.pow_le_pow_right (by decide) (by omega)
    have hk7 : MT.K t l i < 128 := by omega
    have hsh : shV .shl .u8 ((MT.K t l i : Nat) : Int) 1 = .i .u8 ((2 * MT.K t l i : Nat) : Int) := by
      have := shl8 (MT.K t l i) 1
      rw [show ((1 : Nat) : Int) = 1 from rfl] at this
      rw [this]
      congr 2
      simp
      omega
    clear hp7
    have hmm : MT.many t (l + 1) (2 * MT.K t l i + 1) ≤ MT.many t l (MT.K t l i) := by rw [MT.many_split h1]; omega
    have hff : MT.firsts t (l + 1) (2 * MT.K t l i + 1) i ≤ MT.firsts t l (MT.K t l i) i := by rw [MT.firsts_split h1 i]; omega
    refine gox ?_
    refine ha.does hL (gox ?_)
    have hd' := hd (MT.bitA l (t.getD i 0))
    clear hd ha na hbn
    cases hb : MT.bitA l (t.getD i 0)
    · rw [hb] at hd'
      simp only [Bool.false_eq_true, if_false] at hd'
      refine gox ?_
      refine hd'.does hL (go ?_)
      have hk2 : MT.K t (l + 1) i = 2 * MT.K t l i := by rw [MT.K, MT.key_succ l _ h1, hb]; rfl
      have hms := MT.many_split (t := t) (v := MT.K t l i) h1
      have hfs := MT.firsts_split (t := t) (v := MT.K t l i) h1 i
      have hfL := MT.from_left (t := t) h1 (MT.K t l i)
      refine ⟨l + 1, by omega, by omega, le_gc 2 (Nat.zero_le _) (by simp) ?_ ?_⟩
      · rw [hk2, hfL, show MT.many t (l + 1) (2 * MT.K t l i) = MT.many t l (MT.K t l i) - MT.many t (l + 1) (2 * MT.K t l i + 1) by omega]
        clear hms hfs hfL hk2
        refine gox ?_
        trivial
      · rw [hk2, show MT.firsts t (l + 1) (2 * MT.K t l i) i = MT.firsts t l (MT.K t l i) i - MT.firsts t (l + 1) (2 * MT.K t l i + 1) i by omega]
        clear hms hfs hfL hk2
        refine go ?_
        exact (hfr _ _).symm
    · rw [hb] at hd'
      simp only [if_true] at hd'
      have hor : (2 * MT.K t l i ||| 1) = 2 * MT.K t l i + 1 := by
        have := Nat.two_pow_add_eq_or_of_lt (i := 1) (show 1 < 2 ^ 1 by decide) (MT.K t l i)
        rw [Nat.pow_one] at this; exact this.symm
      refine gox ?_
      refine hd'.does hL (go ?_)
      have hk2 : MT.K t (l + 1) i = 2 * MT.K t l i + 1 := by rw [MT.K, MT.key_succ l _ h1, hb]; rfl
      have hms := MT.many_split (t := t) (v := MT.K t l i) h1
      have hfR := MT.from_right (t := t) h1 (MT.K t l i)
      refine ⟨l + 1, by omega, by omega, le_gc 2 (Nat.zero_le _) (by simp) ?_ ?_⟩
      · rw [hk2, hfR, show MT.from_ t l (MT.K t l i) + MT.many t (l + 1) (2 * MT.K t l i) = MT.from_ t l (MT.K t l i) + MT.many t l (MT.K t l i) - MT.many t (l + 1) (2 * MT.K t l i + 1) by omega]
        clear hms hfR hk2
        refine gox ?_
        trivial
      · rw [hk2]
        clear hms hfR hk2
        refine go ?_
        exact (hfr _ _).symm
  · obtain rfl : l = 8 := by omega
    have h8 : MT.K t 8 i = t.getD i 0 := MT.key_eight _
    rw [h8]
    refine go ?_
    exact fin_
end Go.Proofs.E
end
/- The program: texts in eight rows of bits: walking down. -/
section
set_option linter.unusedVariables false
set_option linter.unusedSimpArgs false
set_option linter.unusedSectionVars false
namespace Go.Proofs.E
open Go Go.Proofs.MV Go.Proofs.MI
set_option linter.unusedVariables false
set_option maxRecDepth 10000
variable {L : Nat → (Nat → Option Obj) → Prop}
theorem b_downN (hT : ∀ n c, L n c → TabL n c) (kind : Nat) (hk : Kind kind) (t : List Nat) (ht : MT.Bytes t) (hl : t.length ≤ 40000) (l v i : Nat) (h1 : l < 8) (hv : v < 2 ^ l) (hi : i ≤ t.length) (b : Bool) :
    Pure Tryz.prog L 60 [vecV kind (MT.lev t l), .agg [.i .i64 (MT.from_ t l v : Nat), .i .i64 (MT.many t l v : Nat)], .b b, .i .i64 (MT.firsts t l v i : Nat)]
      (.tup [.agg [.i .i64 (MT.from_ t (l + 1) (2 * v + b.toNat) : Nat), .i .i64 (MT.many t (l + 1) (2 * v + b.toNat) : Nat)], .i .i64 (MT.firsts t (l + 1) (2 * v + b.toNat) i : Nat)]) := by
  have hll := MT.lev_length ht (l := l) (by omega)
  have hfl := MT.from_le ht (Nat.le_of_lt h1) hv
  have hd := b_down (L := L) hT kind hk (MT.lev t l) (by rw [hll]; omega) (MT.from_ t l v) (MT.many t l v) (MT.firsts t l v i) (by rw [hll]; exact hfl) (MT.firsts_le t l v i hi) b
  obtain ⟨d1, d2⟩ := down_at ht h1 hv i hi
  rw [d1, d2] at hd
  have hms := MT.many_split (t := t) (v := v) h1
  have hfs := MT.firsts_split (t := t) (v := v) h1 i
  have hfL := MT.from_left (t := t) h1 v
  have hfR := MT.from_right (t := t) h1 v
  cases b
  · simp only [Bool.false_eq_true, if_false, Bool.toNat_false, Nat.add_zero] at hd ⊢
    rw [hfL, show MT.many t (l + 1) (2 * v) = MT.many t l v - MT.many t (l + 1) (2 * v + 1) by omega, show MT.firsts t (l + 1) (2 * v) i = MT.firsts t l v i - MT.firsts t (l + 1) (2 * v + 1) i by omega]
    exact hd
  · simp only [if_true, Bool.toNat_true] at hd ⊢
    rw [hfR, show MT.from_ t l v + MT.many t (l + 1) (2 * v) = MT.from_ t l v + MT.many t l v - MT.many t (l + 1) (2 * v + 1) by omega]
    exact hd
/-- The nodes on the way down to a symbol, as far as m. -/
def nodeC (t : List Nat) (c m k : Nat) : List V := if k ≤ m then [.i .i64 (MT.from_ t k (MT.key k c) : Nat), .i .i64 (MT.many t k (MT.key k c) : Nat)] else [.i .i64 0, .i .i64 0]
def pathC (t : List Nat) (c m : Nat) : List V := ((List.range 9).map (nodeC t c m)).flatten
theorem nodeC_length (t : List Nat) (c m k : Nat) : (nodeC t c m k).length = 2 := by unfold nodeC; split <;> rfl
theorem nodeC_one (t : List Nat) (c m k : Nat) : (nodeC t c m k).all V.one = true := by unfold nodeC; split <;> rfl
theorem pathC_eq (t : List Nat) (c m : Nat) : pathC t c m = nodeC t c m 0 ++ (nodeC t c m 1 ++ (nodeC t c m 2 ++ (nodeC t c m 3 ++ (nodeC t c m 4 ++ (nodeC t c m 5 ++ (nodeC t c m 6 ++ (nodeC t c m 7 ++ (nodeC t c m 8 ++ [])))))))) := rfl
theorem pathC_length (t : List Nat) (c m : Nat) : (pathC t c m).length = 18 := by rw [pathC_eq]; simp only [List.length_append, nodeC_length]; rfl
theorem pathC_one (t : List Nat) (c m : Nat) : (pathC t c m).all V.one = true := by rw [pathC_eq]; simp only [List.all_append, nodeC_one]; rfl
theorem pathC_get (t : List Nat) (c m k : Nat) (h : k ≤ 8) (hm : k ≤ m) : ((pathC t c m).drop (k * 2)).take 2 = [.i .i64 (MT.from_ t k (MT.key k c) : Nat), .i .i64 (MT.many t k (MT.key k c) : Nat)] := by
  unfold pathC
  rw [flat_get 2 _ k (by simp; omega) (fun x hx => by obtain ⟨j, _, rfl⟩ := List.mem_map.1 hx; exact nodeC_length t c m j)]
  simp [nodeC, hm]
theorem pathC_set (t : List Nat) (c m : Nat) (h : m < 8) : spl (pathC t c m) ((m + 1) * 2) [.i .i64 (MT.from_ t (m + 1) (MT.key (m + 1) c) : Nat), .i .i64 (MT.many t (m + 1) (MT.key (m + 1) c) : Nat)] = pathC t c (m + 1) := by
  rw [pathC_eq, pathC_eq]
  rcases m with _ | _ | _ | _ | _ | _ | _ | _ | m <;> first | rfl | omega
theorem pathC_zero (t : List Nat) (c : Nat) (ht : MT.Bytes t) (hc : c < 256) : pathC t c 0 = spl (List.replicate 18 (.i .i64 0)) 0 [.i .i64 0, .i .i64 (t.length : Nat)] := by
  have hm := MT.many_root ht t.length (Nat.le_refl _)
  rw [MT.firsts_all] at hm
  rw [pathC_eq]
  simp only [nodeC, MT.key_zero hc, MT.from_zero, hm]
  rfl
theorem pathC_below (n : Nat) (t : List Nat) (c m : Nat) : ∀ v ∈ pathC t c m, Below n v := all_flat n _ fun l hl => by
  obtain ⟨j, _, rfl⟩ := List.mem_map.1 hl
  unfold nodeC
  split <;> (intro v hv; rcases List.mem_cons.1 hv with e | hv; · subst e; exact .i _ _) <;> (rw [List.mem_singleton.1 hv]; exact .i _ _)
theorem frn_path (P : Program) (H : Heap) (n0 n : Nat) (t : List Nat) (c m : Nat) : (pathC t c m).map (frn P H n0 (n + 1)) = pathC t c m := by
  unfold pathC
  rw [List.map_flatten, List.map_map]
  congr 1
  refine List.map_congr_left fun k _ => ?_
  show (nodeC t c m k).map _ = _
  unfold nodeC
  split <;> rfl
theorem frz_path (P : Program) (H : Heap) (n : Nat) (t : List Nat) (c m : Nat) : (pathC t c m).map (frz P H (n + 1)) = pathC t c m := by
  unfold pathC
  rw [List.map_flatten, List.map_map]
  congr 1
  refine List.map_congr_left fun k _ => ?_
  show (nodeC t c m k).map _ = _
  unfold nodeC
  split <;> rfl
theorem bit_val (c l : Nat) (h : l ≤ 7) : decide (c / 2 ^ (7 - l) % 2 = 1) = MT.bitA l c := by
  unfold MT.bitA
  rw [Nat.testBit_eq_decide_div_mod_eq]
theorem b_twalk (hT : ∀ n c, L n c → TabL n c) (kind : Nat) (hk : Kind kind) (t : List Nat) (ht : MT.Bytes t) (hl : t.length ≤ 40000) (c : Nat) (hc : c < 256) (i : Nat) (hi : i ≤ t.length) : Pure Tryz.prog L 36 [treeV kind t, .i .u8 c, .i .i64 i] (.tup [.agg (pathC t c 8), .i .i64 (MT.firsts t 8 c i : Nat)]) := by
  refine pure_of_W Tryz.func36 rfl rfl (by kernel_rfl) [] (args_below (tree_below 0 kind hk t) closed) (tup2_below (.agg (pathC_below 0 t c 8))) fun A hL => ?_
  have hlc := levC_length kind hk t 8
  have hlev := fun l (h : l < 8) => levC_get kind hk t (m := 8) h
  have hdn := fun l v h1 hv b => b_downN (L := L) hT kind hk t ht hl l v i h1 hv hi b
  have hP0 := pathC_zero t c ht hc
  have hPs := fun m h => pathC_set t c m h
  have hPg := fun m k h hm => pathC_get t c m k h hm
  have hPl := fun m => pathC_length t c m
  have hPo := fun m => pathC_one t c m
  unfold treeV vecV at *
  unfold Tryz.f36
  refine gox ?_
  refine loop_ (fun l : Nat => ⟨[(1, .i .u8 c), (2, .i .i64 (MT.firsts t l (MT.key l c) i : Nat)), (6, .p 1 0 0), (8, .p 2 0 0), (16, .sl false 8 (levC kind t 8)), (17, .i .i64 8), (18, .i .i64 l)], [⟨26, 0, [.i .i64 kind, .i .i64 t.length, .sl false 8 (levC kind t 8)], true⟩, ⟨80, 0, List.replicate 18 (.i .i64 0), true⟩, ⟨80, 0, pathC t c l, true⟩]⟩) (fun l => l ≤ 8) (fun l => 8 - l) 0 (Nat.zero_le _) (le_slots' (Nat.zero_le _) ?_ (go ?_)) fun l hl8 => ?_
  · rw [hP0]; rfl
  · have hm := MT.many_root ht i hi
    rw [MT.key_zero hc]; exact hm
  have hkl := MT.key_lt l c hl8 hc
  refine go ?_
  refine ⟨fun h1 => ?_, fun h1 => ?_⟩
  · have e1 := hlev l h1
    have e2 := vec_one kind hk (MT.lev t l)
    have e3 := vec_length kind hk (MT.lev t l)
    have hsp : spl [.i .i64 0, .i .i64 0, .ns, .ns, .ns, .i .i64 0, .i .i64 0, .i .i64 0, .i .i64 0, .ns, .i .i64 0, .ns, .ns, .ns, .i .i64 0, .i .i64 0, .i .i64 0, .i .i64 0, .i .i64 0, .ns, .i .i64 0, .ns] 0 (vecC kind (MT.lev t l)) = vecC kind (MT.lev t l) := spl_all (by rw [e3]; rfl) (by omega)
    have hd := hdn l (MT.key l c) h1 hkl (MT.bitA l c)
    rw [← MT.key_succ l c h1] at hd
    have hb := bit_val c l (by omega)
    have p1 := hPg l l hl8 (Nat.le_refl _)
    have p2 : List.take ((l + 1) * 2) (pathC t c l) ++ V.i .i64 (MT.from_ t (l + 1) (MT.key (l + 1) c) : Nat) :: V.i .i64 (MT.many t (l + 1) (MT.key (l + 1) c) : Nat) :: List.drop ((l + 1) * 2 + 2) (pathC t c l) = pathC t c (l + 1) := by
      rw [← hPs l h1]; unfold spl; simp
    have p3 := hPl l
    have p4 := hPo l
    have sh8 : c >>> (7 - l) < 256 := Nat.lt_of_le_of_lt (Nat.shiftRight_le _ _) hc
    have hfr : ∀ H n0, (levC kind t 8).map (frn Tryz.prog H n0 5) = levC kind t 8 := fun H n0 => frn_lev Tryz.prog H n0 3 kind hk t 8
    have hfp : ∀ m H n0, (pathC t c m).map (frn Tryz.prog H n0 6) = pathC t c m := fun m H n0 => frn_path Tryz.prog H n0 5 t c m
    clear hlev hdn hPg hPs hPl hPo hP0
    refine gox ?_
    refine regT 19 18 0 [17, 15, 14, 13, 12, 11, 10, 9, 8, 7, 6, 5, 4, 3, 2, 1, 0] [] (fun x y => [⟨26, 0, [.i .i64 kind, .i .i64 t.length, .sl false 8 (levC kind t 8)], true⟩, ⟨80, 0, List.replicate 18 (.i .i64 0), true⟩, ⟨80, 0, if x = true then pathC t c (l + 1) else pathC t c l, true⟩, ⟨45, 0, vecC kind (MT.lev t l), true⟩]) (by kernel_rfl) (by kernel_rfl) (by kernel_rfl) rfl ?t1 (fun x y => ?_) ?_
    rotate_left
    · cases x <;> cases y <;> (refine gox ?_; refine ⟨_, hd.does hL ⟨rfl, rfl⟩, ?_⟩; refine gox ?_; first | exact True.intro | rfl)
    · refine go ?_
      refine ⟨l + 1, by omega, by omega, le_gc 3 (Nat.zero_le _) (by simp) ?_ ?_⟩
      · refine go ?_
        simp only [hfr, hfp (l + 1), and_self]
      · refine gox ?_
        first | exact (hfr _ _).symm | trivial
  · obtain rfl : l = 8 := by omega
    have p3 := hPl 8
    have p4 := hPo 8
    clear hPs hPl hPo hP0 hPg hlev hdn
    have hsp : spl (nums .i64 (List.replicate 18 0)) 0 (pathC t c 8) = pathC t c 8 := spl_all (by rw [p3, len_nums]; rfl) (by omega)
    have h8 := MT.key_eight c
    refine gox ?_
    first | refine ⟨Nat.le_refl _, 3, ?_⟩ | refine ⟨3, ?_⟩
    simp only [frz, List.map_cons, List.map_nil, frz_path]
end Go.Proofs.E
end
