/- Part 5 of what this claim leans on: EQ. -/
import Derived.Test.YtdoooffmaokaeaaGreatDoorZ4
import Derived.Below
/- The machine of values: from a contract of values to a call of the program. Of no function. -/
section
set_option linter.unusedVariables false
set_option linter.unusedSimpArgs false
set_option linter.unusedSectionVars false
namespace Go.Proofs.E
open Go
set_option linter.unusedVariables false
section
variable {P : Program} {L : Nat → (Nat → Option Obj) → Prop}
/-- All that lies in memory at a call. -/
def amb0 (W : World) : Amb := ⟨W.heap.size, fun b => W.heap[b]?, fun _ => False⟩
abbrev ro0 (W : World) : Nat → Prop := RO (amb0 W) W (fun _ => none) []
theorem ro0_lt {W : World} {q : Nat} (h : q < W.heap.size) : ro0 W q := ⟨h, fun ⟨b, k, h1, _⟩ => by simp at h1, fun h => h⟩
theorem cell_lt {W : World} {a : Addr} {v : Value} (h : W.cell? a = some v) : a.block < W.heap.size := by
  unfold World.cell? at h
  split at h
  · rename_i c t f hc
    exact (Array.getElem?_eq_some_iff.1 hc).1
  · cases h
/-- A row of numbers that came in. -/
theorem row_rep {W : World} {k : IntKind} {a : Option Addr} {len cap : Nat} {l : List Nat} (hc : len ≤ cap) (hl : l.length = len) (h : ∀ j, j < len → ∃ ad, a = some ad ∧ W.cell? (ad.add j) = some (.int k (l.getD j 0 : Nat))) (hn : a = none → len = 0) :
    RepV P W (ro0 W) (fun _ => none) [] (.sl false len (nums k l)) (.slice a len cap) := by
  refine .sl a cap (fun j => .int k (l.getD j 0 : Nat)) hc (fun e => by cases e) (fun j v hj => ?_) (fun j v hj => ?_) hn
  · have hlt : j < len := by have := (List.getElem?_eq_some_iff.1 hj).1; rw [len_nums, hl] at this; exact this
    obtain ⟨ad, e, hcell⟩ := h j hlt
    have := cell_lt hcell
    rw [add_block] at this
    exact ⟨ad, e, ro0_lt this, hcell⟩
  · have hlt : j < l.length := by have := (List.getElem?_eq_some_iff.1 hj).1; rwa [len_nums] at this
    unfold nums at hj
    rw [List.getElem?_map, List.getElem?_eq_getElem hlt] at hj
    injection hj with hj
    rw [← hj, List.getD_eq_getElem?_getD, List.getElem?_eq_getElem hlt]
    exact .i _ _
theorem calls_of_pure {f : FuncId} {args : List V} {b : Bool} (h : Pure P L f args (.b b)) {W : World} (hL : L W.heap.size (fun b => W.heap[b]?)) {vs : Array Value} (hargs : RepL P W (ro0 W) (fun _ => none) [] args vs) (eg : ∀ args w, (callFunc f args).run P w = .ok (.enter f args) w) :
    Calls P f vs W fun e w' => e = .returned (.bool b) ∧ Go.RowKit.Below W.heap.size W w' := by
  obtain ⟨ha, hr, hd⟩ := h
  have hH : RepH P (amb0 W) W (fun _ => none) [] := empty_rep (fun _ _ => rfl) (Nat.le_refl _) fun _ h => h.elim
  obtain ⟨fn, g1, g2, g3⟩ := hd (amb0 W) hL W _ vs hH hargs
  rcases g3 with ⟨g3, g4⟩ | ⟨v, w', g3, g4⟩
  · refine g4.mono fun e w' ⟨v, he, r', H1, m1, ⟨n, hfr⟩, hout⟩ => ?_
    have hrep := frz_rep (F := fun _ => True) hout.mem (fun q hq hb => trivial) (fun b k q h1 h2 h3 => hout.mem.own2 b q k h1 h2 h3) n r' v hout.rep
    rw [hfr] at hrep
    have hk := hout.keep
    exact ⟨by rw [he, rep_b hrep], ⟨hk.os, hk.tape, hk.output.1, hk.size, fun q hq => hk.block q hq fun ⟨b, k, h1, _⟩ => by simp at h1⟩⟩
  · rw [eg] at g3
    cases g3
end
end Go.Proofs.E
end
