/- Part 14 of what this claim leans on: YBase. -/
import Derived.Test.YtdoooffmaokaeaaGreatDoorProg
import Derived.Test.YtdoooffmaokaeaaGreatDoorZ13
import Derived.WalkMore
import Derived.ScopeJumps
import Derived.Deep.RegionHeld3
import Derived.Deep.RegionWith
import Derived.BigRegion
import Derived.BigQuiet
import Derived.Deep.QuietTactic
import Derived.Deep.LoopGhost
import Derived.Deep.OwnShut
import Derived.Deep.OwnRows
import Derived.Deep.MidRow
import Derived.StillTailTactics
import Derived.WalkLawsBesides
import Derived.WalkSpells
import Derived.Lib.Hide
import Derived.Shelf.Abstract
import Derived.Sort.Grow
import Derived.Outline
import Derived.OwnWalk
import Derived.LoopTactic
import Derived.Laws.Rows
import Derived.Laws.NewBlocks
import Derived.WalkKit
/- Words for walks by hand: what only makes new memory, scopes that jump back. Of no function. -/
section
set_option linter.unusedVariables false
set_option linter.unusedSimpArgs false
set_option linter.unusedSectionVars false
namespace Go.Proofs.YtdoooffmaokaeaaGreatDoor.Base
open Go.RowKit
set_option linter.unusedVariables false
set_option linter.unusedSimpArgs false

/-- What only makes new memory, and draws. -/
structure Bd (W w : World) : Prop where
  below : Below W.heap.size W w
  drawn : W.drawn ≤ w.drawn
theorem Bd.refl (W : World) : Bd W W := ⟨Below.refl _ _, Nat.le_refl _⟩
theorem Bd.trans {a b c : World} (h : Bd a b) (k : Bd b c) : Bd a c :=
  ⟨h.below.trans (k.below.mono h.below.size), Nat.le_trans h.drawn k.drawn⟩
theorem Bd.alloc (W : World) (o : Obj) : Bd W (W.alloc o) := ⟨(Below.refl _ _).alloc (Nat.le_refl _) _, Nat.le_refl _⟩
theorem Bd.drew (W : World) : Bd W W.drew := ⟨(Below.refl _ _).drew, Nat.le_succ _⟩
theorem Bd.drewN (W : World) (n : Nat) : Bd W (W.drewN n) := ⟨⟨rfl, rfl, rfl, Nat.le_refl _, fun _ _ => rfl⟩, Nat.le_add_right _ _⟩
theorem Bd.cell {W w : World} (h : Bd W w) {a : Addr} {v : Value} (hc : W.cell? a = some v) : w.cell? a = some v :=
  (h.below.cell (World.block_lt_of_cell? W a hc)).trans hc
theorem Bd.grow {W w : World} (h : Bd W w) : ∃ q os, w = Go.Sort.grow (W.drewN q) os := by
  refine ⟨w.drawn - W.drawn, w.heap.extract W.heap.size w.heap.size, ?_⟩
  have hh : w.heap = W.heap ++ w.heap.extract W.heap.size w.heap.size := by
    apply Array.ext_getElem?
    intro i
    rcases Nat.lt_or_ge i W.heap.size with hi | hi
    · rw [Array.getElem?_append_left hi]
      exact h.below.block i hi
    · rw [Array.getElem?_append_right hi, Array.getElem?_extract]
      have hs := h.below.size
      split
      · congr 1; omega
      · rw [Array.getElem?_eq_none (by omega)]
  cases w with
  | mk heap tape drawn os output =>
    have h1 := h.below.os; have h2 := h.below.tape; have h3 := h.below.output; have h4 := h.drawn
    simp only at h1 h2 h3 h4 hh
    subst h1; subst h2; subst h3
    show _ = ({ (W.drewN (drawn - W.drawn)) with heap := _ } : World)
    simp only [World.drewN]
    congr 1
    omega


theorem Bd.setCell {W w : World} {p : Addr} (h : Bd W w) (hp : W.heap.size ≤ p.block) (v : Value) : Bd W (w.setCell p v) := ⟨h.below.setCell hp v, h.drawn⟩
end Go.Proofs.YtdoooffmaokaeaaGreatDoor.Base
end
