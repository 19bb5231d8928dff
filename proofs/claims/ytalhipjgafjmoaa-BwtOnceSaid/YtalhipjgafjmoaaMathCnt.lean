/- Counts of symbols, and places of firsts: plain. -/
import Init
namespace Go.Proofs.Ytalhipjgafjmoaa.Bwt
set_option linter.unusedVariables false

/-- How many of the first i are j. -/
def cnt (l : List Int) (i j : Nat) : Int := (((l.take i).countP fun x => decide (x = (j : Int)) : Nat) : Int)
theorem cnt_succ (l : List Int) (i j : Nat) (h : i < l.length) : cnt l (i + 1) j = cnt l i j + (if l.getD i 0 = (j : Int) then 1 else 0) := by
  unfold cnt
  rw [List.take_add_one, List.countP_append, List.getElem?_eq_getElem h, List.getD_eq_getElem?_getD, List.getElem?_eq_getElem h]
  simp only [Option.toList_some, List.countP_cons, List.countP_nil, Option.getD_some, decide_eq_true_eq]
  split <;> simp
theorem cnt_le (l : List Int) (i j : Nat) : 0 ≤ cnt l i j ∧ cnt l i j ≤ i ∧ cnt l i j ≤ l.length := by
  unfold cnt
  have h := List.countP_le_length (p := fun x => decide (x = (j : Int))) (l := l.take i)
  rw [List.length_take] at h
  omega
/-- Place of the first of each symbol. -/
def fst (l : List Int) (c : Nat) : Int := 1 + ((l.countP fun x => decide (x < (c : Int)) : Nat) : Int)
def fstTo (l : List Int) (j : Nat) : List Int := (List.range (j + 1)).map (fst l)
theorem fstTo_length (l : List Int) (j : Nat) : (fstTo l j).length = j + 1 := by simp [fstTo]
theorem fstTo_succ (l : List Int) (j : Nat) : fstTo l (j + 1) = fstTo l j ++ [fst l (j + 1)] := by unfold fstTo; rw [List.range_succ, List.map_append]; rfl
theorem fst_succ (l : List Int) (j : Nat) : fst l (j + 1) = fst l j + cnt l l.length j := by
  unfold fst cnt
  rw [List.take_length]
  have h : ∀ m : List Int, m.countP (fun x => decide (x < ((j + 1 : Nat) : Int))) = m.countP (fun x => decide (x < (j : Int))) + m.countP (fun x => decide (x = (j : Int))) := by
    intro m
    induction m with
    | nil => rfl
    | cons x m ih =>
      rw [List.countP_cons, List.countP_cons, List.countP_cons, ih]
      simp only [decide_eq_true_eq]
      (repeat' split) <;> omega
  rw [h l]
  omega
theorem fst_le (l : List Int) (j : Nat) : 1 ≤ fst l j ∧ fst l j ≤ 1 + l.length := by
  unfold fst
  have h := List.countP_le_length (p := fun x => decide (x < (j : Int))) (l := l)
  omega
theorem fstTo_get (l : List Int) (j k : Nat) (h : k ≤ j) : (fstTo l j).getD k 0 = fst l k := by
  unfold fstTo
  rw [List.getD_eq_getElem?_getD, List.getElem?_map, List.getElem?_range (by omega)]
  rfl
theorem fstTo_zero (l : List Int) (hb : ∀ x ∈ l, 0 ≤ x) : fstTo l 0 = [1] := by
  have : l.countP (fun x => decide (x < ((0 : Nat) : Int))) = 0 := by
    rw [List.countP_eq_zero]
    intro x hx
    have := hb x hx
    rw [decide_eq_true_eq]
    omega
  show [1 + ((l.countP (fun x => decide (x < ((0 : Nat) : Int))) : Nat) : Int)] = [1]
  rw [this]
  rfl
end Go.Proofs.Ytalhipjgafjmoaa.Bwt
