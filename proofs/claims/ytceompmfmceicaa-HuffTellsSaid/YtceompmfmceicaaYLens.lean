/- huff.Lengths: what its first loop keeps. -/
import Derived.Test.YtceompmfmceicaaYPop
import Derived.Test.YtceompmfmceicaaYHuff1
import Derived.Test.YtceompmfmceicaaMathAll
namespace Go.Proofs.Ytceompmfmceicaa.Heap
open Go.RowKit Go.Shelf Go.Lib Go.Proofs Go.Proofs.YtceompmfmceicaaW.PrintWords Go.Proofs.MathHeap Go.Proofs.MathHuff
set_option linter.unusedVariables false
set_option linter.unusedSimpArgs false

theorem zero_heap (w : World) : (zeroValue 56).run Try.prog w = .ok (.agg (hcells (.slice none 0 0) (fun _ => 0) 0)) w := by kernel_rfl
theorem info_thing : (Try.prog.info? 58).map (fun i => (i.zero, i.size, i.bytes)) = some (some (.agg #[.int .i64 0, .int .i64 0, .int .i64 0]), 3, 24) := by kernel_rfl
/-- The things so far, the ids of those that weigh something. -/
def thOf (counts : List Int) (c : Nat) : Th := ⟨cnt counts c, (c : Int), -1⟩
def things (counts : List Int) (k : Nat) : List Th := (List.range k).map (thOf counts)
def live (counts : List Int) (k : Nat) : List Nat := (List.range k).filter fun c => decide (0 < cnt counts c)
theorem things_length (counts : List Int) (k : Nat) : (things counts k).length = k := by simp [things]
theorem things_succ (counts : List Int) (k : Nat) : things counts (k + 1) = things counts k ++ [thOf counts k] := by
  unfold things
  rw [List.range_succ, List.map_append]
  rfl
theorem things_get (counts : List Int) (k x : Nat) (h : x < k) : (things counts k)[x]? = some (thOf counts x) := by
  unfold things
  rw [List.getElem?_map, List.getElem?_range h]
  rfl
theorem live_succ (counts : List Int) (k : Nat) : live counts (k + 1) = if 0 < cnt counts k then live counts k ++ [k] else live counts k := by
  unfold live
  rw [List.range_succ, List.filter_append]
  by_cases h : 0 < cnt counts k
  · rw [if_pos h]
    simp [h]
  · rw [if_neg h]
    simp [h]
theorem live_lt (counts : List Int) (k : Nat) : ∀ x ∈ live counts k, x < k := fun x hx => List.mem_range.1 (List.mem_filter.1 hx).1
theorem live_length (counts : List Int) (k : Nat) : (live counts k).length ≤ k := by
  have := List.length_filter_le (fun c => decide (0 < cnt counts c)) (List.range k)
  rw [List.length_range] at this
  exact this
theorem Heaped.more {T : List Th} {l : List Nat} {L : Nat → Nat} {n : Nat} (h : Heaped T l L n) (hl : ∀ x ∈ l, x < T.length) (t : Th) : Heaped (T ++ [t]) l L n := by
  refine ⟨h.ord.same fun i j hi hj => ?_, h.ids⟩
  have hi := h.lt hl i hi
  have hj := h.lt hl j hj
  unfold ltT
  rw [List.getD_eq_getElem?_getD, List.getD_eq_getElem?_getD, List.getElem?_append_left hi, List.getElem?_append_left hj, ← List.getD_eq_getElem?_getD, ← List.getD_eq_getElem?_getD]
theorem tcells_snoc (T : List Th) (t : Th) : tcells (T ++ [t]) = tcells T ++ thCells t := by simp [tcells]
theorem own_form {w : World} {base e size n : Nat} {v : Value} {xs : List Value} (h : w.ownsRow base e size v n xs) (hn : 0 < n) : ∃ g cap, v = .slice (some ⟨g, 0, none⟩) n cap := by
  rcases h.2 with ⟨_, h⟩ | ⟨g, cap, _, rfl, _⟩
  · omega
  · exact ⟨g, cap, rfl⟩
theorem Hp.appended {base H : Nat} {v v1 : Value} {T : List Th} {L : Nat → Nat} {n : Nat} {W w1 : World} (h : Hp base H v T L n W) (t : Th) (hown : w1.ownsRow base 58 3 v1 (T.length + 1) (tcells T ++ thCells t)) (hg : W.grownBy w1 v.ownBlock) (hat : v1.ownBlock = v.ownBlock ∨ ∃ b, v1.ownBlock = some b ∧ W.heap.size ≤ b) :
    w1.heap[H]? = some (.cells (hcells v L n) 56 (0, 0)) ∧ Hp base H v1 (T ++ [t]) L n (w1.setCell ⟨H, 0, none⟩ v1) := by
  have hH := (hg.block H (Row.blk_lt h.h) (Ne.symm h.ne)).trans h.h
  have hne : v1.ownBlock ≠ some H := by
    rcases hat with e | ⟨b, e, hb⟩
    · rw [e]; exact h.ne
    · rw [e]
      have := Row.blk_lt h.h
      intro e2
      injection e2 with e2
      omega
  refine ⟨hH, h.hb, ?_, ?_, hne⟩
  · rw [Row.blk_set hH, hcells_set_0]
  · rw [tcells_snoc, List.length_append]
    exact own_setCell hown (Ne.symm hne) v1
/-- What holds while the things are laid. -/
structure Laid (w : World) (counts : List Int) (k : Nat) (W : World) : Prop where
  below : Below w.heap.size w W
  ex : ∃ v L n, Hp w.heap.size w.heap.size v (things counts k) L n W ∧ Heaped (things counts k) (live counts k) L n
end Go.Proofs.Ytceompmfmceicaa.Heap
