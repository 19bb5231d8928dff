/- Part 10 of what this claim leans on: MI, TI, TI2. -/
import Derived.Test.YtdoooffmaokaeaaGreatDoorZ7
import Derived.Lib.BitFns
import Derived.Test.YtdoooffmaokaeaaGreatDoorZ9
/- Rows of numbers, as bits; in plain Lean. Of no function of the program. -/
section
set_option linter.unusedVariables false
set_option linter.unusedSimpArgs false
set_option linter.unusedSectionVars false
namespace Go.Proofs.MI
open Go.Proofs.MV
set_option linter.unusedVariables false
def nats (l : List Nat) : List Int := l.map fun x : Nat => (x : Int)
def flat (d : Nat) : List Nat → List Bool
  | [] => []
  | x :: l => bitsOf x d ++ flat d l
theorem flat_length (d : Nat) : ∀ l : List Nat, (flat d l).length = l.length * d
  | [] => by simp [flat]
  | x :: l => by
    show (bitsOf x d ++ flat d l).length = _
    rw [List.length_append, bitsOf_length, flat_length d l, List.length_cons, Nat.succ_mul]; omega
theorem flat_append (d : Nat) (b : List Nat) : ∀ a, flat d (a ++ b) = flat d a ++ flat d b
  | [] => rfl
  | x :: a => by
    show bitsOf x d ++ flat d (a ++ b) = bitsOf x d ++ flat d a ++ flat d b
    rw [flat_append d b a, List.append_assoc]
theorem flat_take (d : Nat) (l : List Nat) (j : Nat) (h : j < l.length) : flat d (l.take (j + 1)) = flat d (l.take j) ++ bitsOf (l.getD j 0) d := by
  rw [List.take_succ_eq_append_getElem h, flat_append]
  congr 1
  show bitsOf _ d ++ [] = _
  rw [List.append_nil, List.getD_eq_getElem?_getD, List.getElem?_eq_getElem h]; rfl
theorem flat_bt (d : Nat) : ∀ (l : List Nat) (i j : Nat), i < l.length → j < d → bt (flat d l) (i * d + j) = (l.getD i 0).testBit j
  | [], i, j, h, _ => by simp at h
  | x :: l, 0, j, _, hj => by
    show bt (bitsOf x d ++ flat d l) _ = x.testBit j
    rw [Nat.zero_mul, Nat.zero_add, bt_append, if_pos (by rw [bitsOf_length]; exact hj), bt_bitsOf, decide_eq_true hj, Bool.true_and]
  | x :: l, i + 1, j, h, hj => by
    show bt (bitsOf x d ++ flat d l) _ = (l.getD i 0).testBit j
    have e : (i + 1) * d + j = d + (i * d + j) := by rw [Nat.succ_mul]; omega
    rw [e, bt_append, if_neg (by rw [bitsOf_length]; omega), bitsOf_length, Nat.add_sub_cancel_left]
    exact flat_bt d l i j (by simpa using h) hj
theorem flat_piece (d : Nat) (l : List Nat) (i : Nat) (h : i < l.length) (hx : l.getD i 0 < 2 ^ d) : piece (flat d l) (i * d) d = l.getD i 0 := by
  unfold piece
  rw [wd_ext (g := (l.getD i 0).testBit) (fun j hj => flat_bt d l i j h hj)]
  exact wd_self hx
theorem mul_fits {i n d : Nat} (h : i < n) : i * d + d ≤ n * d := by
  have := Nat.mul_le_mul_right d (show i + 1 ≤ n from h)
  rw [Nat.succ_mul] at this; exact this
theorem bitLen_le : ∀ (f x d : Nat), x < 2 ^ d → Go.Lib.bitLenAux f x ≤ d
  | 0, x, d, _ => Nat.zero_le _
  | f + 1, x, d, h => by
    unfold Go.Lib.bitLenAux
    split
    · exact Nat.zero_le _
    · cases d with
      | zero => simp at h; omega
      | succ d =>
        have := bitLen_le f (x / 2) d (by rw [Nat.pow_succ] at h; omega)
        omega
/-- The first j of a list, noughts behind. -/
def upto (l : List Nat) (j : Nat) : List Nat := l.take j ++ List.replicate (l.length - j) 0
theorem upto_zero (l : List Nat) : upto l 0 = List.replicate l.length 0 := by simp [upto]
theorem upto_all (l : List Nat) : upto l l.length = l := by simp [upto]
theorem upto_length (l : List Nat) (j : Nat) (h : j ≤ l.length) : (upto l j).length = l.length := by simp [upto]; omega
theorem upto_succ (l : List Nat) (j : Nat) (h : j < l.length) : upto l (j + 1) = (upto l j).set j (l.getD j 0) := by
  unfold upto
  have e : List.replicate (l.length - j) 0 = 0 :: List.replicate (l.length - (j + 1)) 0 := by
    rw [show l.length - j = l.length - (j + 1) + 1 by omega, List.replicate_succ]
  have hl : (l.take j).length = j := by rw [List.length_take]; omega
  rw [e, List.set_append_right _ _ (by omega), hl, Nat.sub_self, List.set_cons_zero, List.take_succ_eq_append_getElem h, List.append_assoc, List.getD_eq_getElem?_getD, List.getElem?_eq_getElem h]
  rfl
end Go.Proofs.MI
end
/- The program: rows of numbers. -/
section
set_option linter.unusedVariables false
set_option linter.unusedSimpArgs false
set_option linter.unusedSectionVars false
namespace Go.Proofs.E
open Go Go.Proofs.MV Go.Proofs.MI
set_option linter.unusedVariables false
set_option maxRecDepth 10000
variable {L : Nat → (Nat → Option Obj) → Prop}
/-- A row of numbers of d bits each. -/
def intsV (d : Nat) (l : List Nat) : V := .agg [.i .i64 (l.length : Nat), .i .i64 d, .i .i64 (l.length * d : Nat), .sl false (wc (flat d l)) (nums .u64 (wn (flat d l) (wc (flat d l))))]
def wid : List Nat → Nat → Nat
  | _, 0 => 1
  | l, j + 1 => max (wid l j) (Lib.bitLen (l.getD j 0))
theorem b_width (l : List Nat) (hl : l.length < 2000000) (h : ∀ j, j < l.length → l.getD j 0 < 2 ^ 64) : Pure Tryz.prog L 147 [.sl false l.length (nums .u64 l)] (.i .i64 (wid l l.length : Nat)) := by
  refine pure_of_W Tryz.func147 rfl rfl (by kernel_rfl) [] closed (.i _ _) fun A hL => ?_
  have hlen : ∀ j, wid l j ≤ 64 ∨ l.length < j := fun j => by
    induction j with
    | zero => left; show 1 ≤ 64; omega
    | succ j ih =>
      by_cases hj : j < l.length
      · left
        have := bitLen_le 64 (l.getD j 0) 64 (h j hj)
        show max (wid l j) (Lib.bitLen (l.getD j 0)) ≤ 64
        have hb : Lib.bitLen (l.getD j 0) ≤ 64 := this
        omega
      · right; omega
  unfold Tryz.f147
  refine go ?_
  refine loop_ (fun j : Nat => ⟨[(3, .i .i64 (wid l j : Nat)), (6, .sl false l.length (nums .u64 l)), (7, .i .i64 l.length), (8, .i .i64 j)], []⟩) (fun j => j ≤ l.length) (fun j => l.length - j) 0 (Nat.zero_le _) (le_slots (Nat.zero_le _) (go ?_)) fun j hj => go ?_
  · exact rfl
  have := hlen j
  refine ⟨fun h1 => go ?_, fun h1 => go ?_⟩
  · refine (b_len (l.getD j 0) (h j h1)).does hL (go ?_)
    refine ⟨j + 1, by omega, by omega, le_slots (Nat.zero_le _) (go ?_)⟩
    exact rfl
  · obtain rfl : j = l.length := by omega
    exact fin_
theorem b_new0 : Pure Tryz.prog L 48 [.i .i64 0] (.tup [.agg [.i .i64 0, .sl false 0 (nums .u64 [])], .i .i64 0]) := by
  refine pure_of_W Tryz.func48 rfl rfl (by kernel_rfl) [] closed closed fun A hL => ?_
  have hb := b_words (L := L) 0 (by omega)
  unfold Tryz.f48
  refine go ?_
  refine hb.does hL (go ?_)
  exact fin_
theorem b_make (d : Nat) (l : List Nat) (h0 : 0 < d) (hd : d ≤ 64) (hl : l.length * d ≤ 1048576) (h : ∀ j, j < l.length → l.getD j 0 < 2 ^ d) (hw : wid l l.length ≤ d) : Pure Tryz.prog L 94 [.i .i64 d, .sl false l.length (nums .u64 l)] (.tup [intsV d l, .i .i64 0]) := by
  refine pure_of_W Tryz.func94 rfl rfl (by kernel_rfl) [] closed (by unfold intsV; exact closed) fun A hL => ?_
  have hln : l.length ≤ 1048576 := by have := Nat.le_mul_of_pos_right l.length h0; omega
  have hwd := b_width (L := L) l (by omega) (fun j hj => Nat.lt_of_lt_of_le (h j hj) (Nat.pow_le_pow_right (by decide) hd))
  have hdiv : l.length ≤ 1048576 / d := (Nat.le_div_iff_mul_le h0).2 hl
  have hdl : 1048576 / d ≤ 1048576 := Nat.div_le_self _ _
  unfold intsV
  unfold Tryz.f94
  refine go ?_
  refine hwd.does hL (go ?_)
  refine b_new0.does hL (go ?_)
  refine loop_ (fun j : Nat => ⟨[(0, .i .i64 d), (1, .sl false l.length (nums .u64 l)), (4, .p 0 0 0), (6, .p 1 0 0), (34, .sl false l.length (nums .u64 l)), (35, .i .i64 l.length), (36, .i .i64 j)], [⟨39, 0, [.i .i64 0, .i .i64 0, .i .i64 0, .ns], true⟩, ⟨33, 0, [.i .i64 ((flat d (l.take j)).length : Nat), .sl false (wc (flat d (l.take j))) (nums .u64 (wn (flat d (l.take j)) (wc (flat d (l.take j)))))], true⟩]⟩) (fun j => j ≤ l.length) (fun j => l.length - j) 0 (Nat.zero_le _) (le_slots' (Nat.zero_le _) (by simp [flat, wc, wn, nums]) (go ?_)) fun j hj => go ?_
  · trivial
  refine ⟨fun h1 => go ?_, fun h1 => go ?_⟩
  · have happ := b_append (L := L) (flat d (l.take j)) (l.getD j 0) d (Nat.lt_of_lt_of_le (h j h1) (Nat.pow_le_pow_right (by decide) hd)) hd (by
      rw [flat_length, List.length_take, Nat.min_eq_left (by omega)]
      have := mul_fits (d := d) h1; omega)
    rw [← flat_take d l j h1] at happ
    unfold bitsV at happ
    refine happ.does hL (go ?_)
    exact ⟨j + 1, by omega, by omega, le_slots (Nat.zero_le _) (go trivial)⟩
  · obtain rfl : j = l.length := by omega
    rw [flat_length]
    have hw := wn_length (flat d l) (wc (flat d l))
    exact fin_
theorem b_icheck (d : Nat) (l : List Nat) (h0 : 0 < d) (hd : d ≤ 64) (hl : l.length * d ≤ 1048576) : Pure Tryz.prog L 188 [intsV d l] (.b true) := by
  refine pure_of_W Tryz.func188 rfl rfl (by kernel_rfl) [] (by unfold intsV; exact closed) (.b _) fun A hL => ?_
  have hln : l.length ≤ 1048576 := by have := Nat.le_mul_of_pos_right l.length h0; omega
  have hck := b_check (L := L) (flat d l) (by rw [flat_length]; exact hl)
  unfold bitsV at hck
  rw [flat_length] at hck
  unfold intsV
  unfold Tryz.f188
  refine go ?_
  refine hck.does hL (go ?_)
  exact fin_
theorem b_list (d : Nat) (l : List Nat) (h0 : 0 < d) (hd : d ≤ 64) (hl : l.length * d ≤ 1048576) (h : ∀ j, j < l.length → l.getD j 0 < 2 ^ d) : Pure Tryz.prog L 189 [intsV d l] (.sl false l.length (nums .u64 l)) := by
  refine pure_of_W Tryz.func189 rfl rfl (by kernel_rfl) [] (by unfold intsV; exact closed) closed fun A hL => ?_
  have hln : l.length ≤ 1048576 := by have := Nat.le_mul_of_pos_right l.length h0; omega
  have hck := b_icheck (L := L) d l h0 hd hl
  unfold intsV at *
  unfold Tryz.f189
  refine go ?_
  refine hck.does hL (go ?_)
  have hfl : ∀ x, bitsV (flat d x) = .agg [.i .i64 (x.length * d : Nat), .sl false (wc (flat d x)) (nums .u64 (wn (flat d x) (wc (flat d x))))] := fun x => by unfold bitsV; rw [flat_length]
  rw [← upto_zero]
  refine loop_ (fun j : Nat => ⟨[(1, .p 0 0 0), (3, .o 1 0 0 l.length), (11, .o 1 0 0 l.length), (12, .i .i64 l.length), (13, .i .i64 j)], [⟨39, 0, [.i .i64 (l.length : Nat), .i .i64 d, .i .i64 (l.length * d : Nat), .sl false (wc (flat d l)) (nums .u64 (wn (flat d l) (wc (flat d l))))], true⟩, ⟨95, 0, nums .u64 (upto l j), true⟩]⟩) (fun j => j ≤ l.length) (fun j => l.length - j) 0 (Nat.zero_le _) (le_slots (Nat.zero_le _) (go ?_)) fun j hj => go ?_
  · trivial
  have hul := upto_length l j hj
  have hmf := Nat.mul_le_mul_right d hj
  refine ⟨fun h1 => go ?_, fun h1 => go ?_⟩
  · have hmf2 := mul_fits (d := d) h1
    have hsl := b_slice (L := L) (flat d l) (by rw [flat_length]; exact hl) (j * d) d (by rw [flat_length]; exact hmf2) h0 hd
    rw [flat_piece d l j h1 (h j h1), hfl] at hsl
    refine hsl.does hL (go ?_)
    rw [← upto_succ l j h1]
    exact ⟨j + 1, by omega, by omega, le_slots (Nat.zero_le _) (go trivial)⟩
  · obtain rfl : j = l.length := by omega
    rw [upto_all]
    exact fin_
end Go.Proofs.E
end
/- The program: a number of a row. -/
section
set_option linter.unusedVariables false
set_option linter.unusedSimpArgs false
set_option linter.unusedSectionVars false
namespace Go.Proofs.E
open Go Go.Proofs.MV Go.Proofs.MI
set_option linter.unusedVariables false
set_option maxRecDepth 10000
variable {L : Nat → (Nat → Option Obj) → Prop}
theorem b_has (d : Nat) (l : List Nat) (h0 : 0 < d) (hd : d ≤ 64) (hl : l.length * d ≤ 1048576) (i : Nat) (hi : i < l.length) : Pure Tryz.prog L 193 [intsV d l, .i .i64 i] .ni := by
  refine pure_of_W Tryz.func193 rfl rfl (by kernel_rfl) [] (by unfold intsV; exact closed) .ni fun A hL => ?_
  have hck := b_icheck (L := L) d l h0 hd hl
  unfold intsV at *
  unfold Tryz.f193
  refine go ?_
  refine hck.does hL (go ?_)
  exact fin_
theorem b_iget (d : Nat) (l : List Nat) (h0 : 0 < d) (hd : d ≤ 64) (hl : l.length * d ≤ 1048576) (i : Nat) (hi : i < l.length) (h : l.getD i 0 < 2 ^ d) : Pure Tryz.prog L 170 [intsV d l, .i .i64 i] (.tup [.i .u64 (l.getD i 0 : Nat), .i .i64 0]) := by
  refine pure_of_W Tryz.func170 rfl rfl (by kernel_rfl) [] (by unfold intsV; exact closed) closed fun A hL => ?_
  have hck := b_has (L := L) d l h0 hd hl i hi
  have hmf2 := mul_fits (d := d) hi
  have hsl := b_slice (L := L) (flat d l) (by rw [flat_length]; exact hl) (i * d) d (by rw [flat_length]; exact hmf2) h0 hd
  rw [flat_piece d l i hi h] at hsl
  unfold bitsV at hsl
  rw [flat_length] at hsl
  unfold intsV at *
  unfold Tryz.f170
  refine go ?_
  refine hck.does hL (go ?_)
  refine hsl.does hL (go ?_)
  exact fin_
end Go.Proofs.E
end
