/- Rows of numbers in memory, as functions on places. Of no function of the program. -/
import Derived.Test.YtceompmfmceicaaYBase
namespace Go.Proofs.Ytceompmfmceicaa.Row
open Go.RowKit Go.Proofs.Ytceompmfmceicaa.Base
set_option linter.unusedVariables false

/-- A function on 0 .. n - 1, as cells. -/
def row (k : IntKind) (n : Nat) (f : Nat → Int) : Array Value := ((List.range n).map fun i => Value.int k (f i)).toArray
theorem row_size (k : IntKind) (n : Nat) (f : Nat → Int) : (row k n f).size = n := by simp [row]
theorem row_get (k : IntKind) (n : Nat) (f : Nat → Int) (j : Nat) (h : j < n) : (row k n f)[j]? = some (.int k (f j)) := by
  unfold row
  rw [List.getElem?_toArray, List.getElem?_map, List.getElem?_range h]
  rfl
theorem row_ext (k : IntKind) (n : Nat) (f : Nat → Int) (cs : Array Value) (hs : cs.size = n) (h : ∀ j, j < n → cs[j]? = some (.int k (f j))) : cs = row k n f := by
  apply Array.ext_getElem?
  intro j
  have hs' := row_size k n f
  rcases Nat.lt_or_ge j n with hj | hj
  · rw [h j hj, row_get k n f j hj]
  · rw [Array.getElem?_eq_none (by omega), Array.getElem?_eq_none (by omega)]
theorem row_set (k : IntKind) (n : Nat) (f g : Nat → Int) (i : Nat) (v : Int) (hv : g i = v) (hg : ∀ j, j < n → j ≠ i → g j = f j) : (row k n f).setIfInBounds i (.int k v) = row k n g := by
  refine row_ext k n g _ (by rw [Array.size_setIfInBounds]; exact row_size k n f) fun j hj => ?_
  rw [Array.getElem?_setIfInBounds]
  by_cases e : i = j
  · subst e
    rw [if_pos rfl, if_pos (by rw [row_size]; exact hj), hv]
  · rw [if_neg e, row_get k n f j hj, hg j hj (Ne.symm e)]
theorem row_cells {w : World} {k : IntKind} {g t n : Nat} {f : Nat → Int} (h : w.heap[g]? = some (.cells (row k n f) t (0, 0))) (j : Nat) (hj : j < n) : w.cell? ⟨g, j, none⟩ = some (.int k (f j)) ∧ w.frozen? ⟨g, j, none⟩ = false := by
  constructor
  · simp only [World.cell?, h]
    exact row_get k n f j hj
  · simp [World.frozen?, h]
theorem one_cell {w : World} {g t : Nat} {v : Value} (h : w.heap[g]? = some (.cells #[v] t (0, 0))) : w.cell? ⟨g, 0, none⟩ = some v ∧ w.frozen? ⟨g, 0, none⟩ = false := by
  simp [World.cell?, World.frozen?, h]
theorem cell_of {w : World} {g t j : Nat} {cs : Array Value} {v : Value} (h : w.heap[g]? = some (.cells cs t (0, 0))) (hv : cs[j]? = some v) : w.cell? ⟨g, j, none⟩ = some v ∧ w.frozen? ⟨g, j, none⟩ = false := by
  constructor
  · simp only [World.cell?, h]; exact hv
  · simp [World.frozen?, h]
theorem blk_set {w : World} {g t : Nat} {cs : Array Value} (h : w.heap[g]? = some (.cells cs t (0, 0))) (j : Nat) (v : Value) : (w.setCell ⟨g, j, none⟩ v).heap[g]? = some (.cells (cs.setIfInBounds j v) t (0, 0)) := by
  simp [World.setCell, Array.getElem?_modify, h]
theorem size_set (w : World) (p : Addr) (v : Value) : (w.setCell p v).heap.size = w.heap.size := by simp [World.setCell]
theorem set_far (w : World) (p : Addr) (v : Value) (b : Nat) (h : b ≠ p.block) {o : Option Obj} (hb : w.heap[b]? = o) : (w.setCell p v).heap[b]? = o := (Below.heap_setCell w p v b h).trans hb
theorem blk_lt {w : World} {g : Nat} {o : Obj} (h : w.heap[g]? = some o) : g < w.heap.size := (Array.getElem?_eq_some_iff.1 h).1
theorem made_row (k : IntKind) (m : Nat) : madeCells (Value.int k 0).cells (m * 1) = row k m fun _ => 0 := by
  refine row_ext k m _ _ (by rw [size_madeCells]; omega) fun j hj => ?_
  unfold madeCells
  rw [Array.getElem?_map, Array.getElem?_eq_getElem (by simp; omega)]
  simp [Value.cells, Nat.mod_one]
end Go.Proofs.Ytceompmfmceicaa.Row
