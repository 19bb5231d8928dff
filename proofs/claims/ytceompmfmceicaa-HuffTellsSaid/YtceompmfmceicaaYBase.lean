/- Words for walks by hand: what only makes new memory, scopes that jump back. Of no function. -/
import Derived.Test.YtceompmfmceicaaProg
import Derived.Test.YtceompmfmceicaaYRegionInv
import Derived.WalkMore
import Derived.ScopeJumps
import Derived.Deep.RegionHeld3
import Derived.Deep.RegionWith
import Derived.BigRegion
import Derived.BigQuiet
import Derived.Deep.QuietTactic
import Derived.Deep.LoopGhost
import Derived.Deep.OwnShut
import Derived.Deep.OwnRows
import Derived.Deep.MidRow
import Derived.StillTailTactics
import Derived.WalkLawsBesides
import Derived.WalkSpells
import Derived.Lib.Hide
import Derived.Shelf.Abstract
import Derived.Sort.Grow
import Derived.Outline
import Derived.OwnWalk
import Derived.LoopTactic
import Derived.Laws.Rows
import Derived.Laws.NewBlocks
import Derived.WalkKit
namespace Go.Proofs.Ytceompmfmceicaa.Base
open Go.RowKit
set_option linter.unusedVariables false
set_option linter.unusedSimpArgs false

/-- What only makes new memory, and draws. -/
structure Bd (W w : World) : Prop where
  below : Below W.heap.size W w
  drawn : W.drawn ≤ w.drawn
theorem Bd.refl (W : World) : Bd W W := ⟨Below.refl _ _, Nat.le_refl _⟩
theorem Bd.trans {a b c : World} (h : Bd a b) (k : Bd b c) : Bd a c :=
  ⟨h.below.trans (k.below.mono h.below.size), Nat.le_trans h.drawn k.drawn⟩
theorem Bd.alloc (W : World) (o : Obj) : Bd W (W.alloc o) := ⟨(Below.refl _ _).alloc (Nat.le_refl _) _, Nat.le_refl _⟩
theorem Bd.drew (W : World) : Bd W W.drew := ⟨(Below.refl _ _).drew, Nat.le_succ _⟩
theorem Bd.drewN (W : World) (n : Nat) : Bd W (W.drewN n) := ⟨⟨rfl, rfl, rfl, Nat.le_refl _, fun _ _ => rfl⟩, Nat.le_add_right _ _⟩
theorem Bd.cell {W w : World} (h : Bd W w) {a : Addr} {v : Value} (hc : W.cell? a = some v) : w.cell? a = some v :=
  (h.below.cell (World.block_lt_of_cell? W a hc)).trans hc
theorem Bd.grow {W w : World} (h : Bd W w) : ∃ q os, w = Go.Sort.grow (W.drewN q) os := by
  refine ⟨w.drawn - W.drawn, w.heap.extract W.heap.size w.heap.size, ?_⟩
  have hh : w.heap = W.heap ++ w.heap.extract W.heap.size w.heap.size := by
    apply Array.ext_getElem?
    intro i
    rcases Nat.lt_or_ge i W.heap.size with hi | hi
    · rw [Array.getElem?_append_left hi]
      exact h.below.block i hi
    · rw [Array.getElem?_append_right hi, Array.getElem?_extract]
      have hs := h.below.size
      split
      · congr 1; omega
      · rw [Array.getElem?_eq_none (by omega)]
  cases w with
  | mk heap tape drawn os output =>
    have h1 := h.below.os; have h2 := h.below.tape; have h3 := h.below.output; have h4 := h.drawn
    simp only at h1 h2 h3 h4 hh
    subst h1; subst h2; subst h3
    show _ = ({ (W.drewN (drawn - W.drawn)) with heap := _ } : World)
    simp only [World.drewN]
    congr 1
    omega


theorem wp_scope_again {P : Program} {a : Act} {w : World} {Q : Exit → Act → World → Prop} {c rest : Code} (l : Nat) (J : Act → World → Prop) (μ : Act → World → Nat) (hf : findLabel c l = some (Code.skip.seq rest))
    (pass : ∀ a w, J a w → rest.wp P (Exit.jump l (fun a' w' => J a' w' ∧ μ a' w' < μ a w) Q) a w)
    (first : Hid (∀ a w, J a w → rest.wp P (Exit.jump l J Q) a w) → c.wp P (Exit.jump l J Q) a w) : (Code.scope c).wp P Q a w :=
  wp_scope_jumps l J μ hf (first (Lib.hid fun a w h => Code.wp_mono (fun e a' w' he => by cases e <;> first | exact ⟨he.1, he.2.1⟩ | exact he) (pass a w h))) fun a w h => wp_seq (wp_skip (pass a w h))


theorem Bd.setCell {W w : World} {p : Addr} (h : Bd W w) (hp : W.heap.size ≤ p.block) (v : Value) : Bd W (w.setCell p v) := ⟨h.below.setCell hp v, h.drawn⟩
theorem one_cell {w : World} {g t : Nat} {v : Value} (h : w.heap[g]? = some (.cells #[v] t (0, 0))) : w.cell? ⟨g, 0, none⟩ = some v ∧ w.frozen? ⟨g, 0, none⟩ = false := by
  simp [World.cell?, World.frozen?, h]
theorem row_set {w : World} {g t : Nat} {cs : Array Value} (h : w.heap[g]? = some (.cells cs t (0, 0))) (k : Nat) (v : Value) : (w.setCell ⟨g, k, none⟩ v).heap[g]? = some (.cells (cs.setIfInBounds k v) t (0, 0)) := by
  simp [World.setCell, Array.getElem?_modify, h]
theorem size_set (w : World) (p : Addr) (v : Value) : (w.setCell p v).heap.size = w.heap.size := by simp [World.setCell]
theorem set_far (w : World) (p : Addr) (v : Value) (b : Nat) (h : b ≠ p.block) {o : Option Obj} (hb : w.heap[b]? = o) : (w.setCell p v).heap[b]? = o := (Below.heap_setCell w p v b h).trans hb

end Go.Proofs.Ytceompmfmceicaa.Base
