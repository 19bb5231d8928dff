/- Part 20 of what this claim leans on: TTab. -/
import Derived.Test.YtdoooffmaokaeaaGreatDoorRows
import Derived.Test.YtdoooffmaokaeaaGreatDoorZ9
import Derived.Test.YtdoooffmaokaeaaGreatDoorZ5
import Derived.LaidSub
import Derived.FnData
import Derived.OpenShut
import Derived.ChangeArms
import Derived.ChangeSlices
/- The table of the library's words, out of what a row lists. -/
section
set_option linter.unusedVariables false
set_option linter.unusedSimpArgs false
set_option linter.unusedSectionVars false
namespace Go.Proofs.E
open Go Go.Proofs.YtdoooffmaokaeaaGreatDoor Go.ChangeShapes Go.WideShapes
set_option linter.unusedVariables false
set_option maxRecDepth 100000
theorem gTab : Tryz.prog.globalNamed "math/bits.deBruijn64tab" = some (Tryz.tz64L_ren.g 1) := by kernel_rfl
theorem tTab : (Tryz.prog.globals[Tryz.tz64L_ren.g 1]?).map (·.type) = some 214 := by kernel_rfl
theorem uTab : Tryz.prog.underlying 214 = some (.array 64 5) := by kernel_rfl
theorem uByte : Tryz.prog.underlying 5 = some (.int .u8) := by kernel_rfl
theorem cByte : Tryz.prog.cellsOf 5 = 1 := by kernel_rfl
theorem laid_list : (Rows.laid_math_bits_deBruijn64tab : DataW Unit) = .agg (Lib.deBruijn64tab.map fun k : Nat => .lit (.int .u8 (k : Int))) := rfl
theorem tab_of {rest : List (String × DataW Unit)} {W : World} (h : laidMetH Tryz.prog (("math/bits.deBruijn64tab", Rows.laid_math_bits_deBruijn64tab) :: rest) W) : TabL W.heap.size fun b => W.heap[b]? := by
  obtain ⟨h1, _⟩ := laidMetH_iff.1 h
  rw [List.filter_cons_of_pos rfl] at h1
  obtain ⟨ps, ⟨g0, t0, cs0, f0, p0, q0, hg0, ht0, hv0, hd0, _, _⟩, _, _⟩ := h1
  have eg := Option.some.inj (gTab.symm.trans hg0)
  subst eg
  obtain rfl := Option.some.inj (tTab.symm.trans ht0)
  obtain ⟨xs, m, rfl, hx, hlen, hn, hel⟩ := DataW.trod_array uTab hd0
  rw [laid_list] at hx
  intro w hw j hj
  have hj64 : j < 64 := hj
  have hjx : j < xs.length := by omega
  have hj1 := hel j hj64
  rw [List.getElem?_eq_getElem hjx, cByte, Nat.mul_one] at hj1
  obtain ⟨n, e1, e2, _⟩ := DataW.trod_int uByte hj1
  have hx1 : (DataW.agg (Lib.deBruijn64tab.map fun k : Nat => .lit (.int .u8 (k : Int))) : DataW Unit) = .agg (xs.map (·.1)) := congrArg Prod.fst hx
  have hx2 : Lib.deBruijn64tab.map (fun k : Nat => (DataW.lit (.int .u8 (k : Int)) : DataW Unit)) = xs.map (·.1) := by injection hx1
  have hx3 := congrArg (fun l => l[j]?) hx2
  simp only [List.getElem?_map, List.getElem?_eq_getElem hjx, List.getElem?_eq_getElem hj, Option.map_some, e2, Option.some.injEq] at hx3
  have hnv : n = ((Lib.deBruijn64tab.getD j 0 : Nat) : Int) := by
    rw [List.getD_eq_getElem?_getD, List.getElem?_eq_getElem hj]
    injection hx3 with hx3
    injection hx3 with _ hx3
    exact hx3.symm
  have hc : cs0.toList[j]? = some (.int .u8 n) := by
    have := congrArg (fun l => l[0]?) e1
    simp only [List.getElem?_take_of_lt (show 0 < 1 by decide), List.getElem?_drop, Nat.add_zero, List.getElem?_cons_zero] at this
    exact this
  have hcell := World.var?_cell hg0 hv0 j
  rw [← Array.getElem?_toList, hc] at hcell
  have hlt : Tryz.tz64L_ren.g 1 < W.heap.size := cell_lt hcell
  show w.cell? ⟨_, j, none⟩ = _
  rw [cell_of_heap (a := ⟨Tryz.tz64L_ren.g 1, j, none⟩) (hw _ hlt), hcell, hnv]
/-- A row of numbers, as it came in. -/
theorem open_row {H : Type} {enc : TypeId × Value → H} {P : Program} {W : World} {held : Bool} {t e : TypeId} {fuel : Nat} {a : Option Addr} {len cap : Nat} {y : DataW H × List MemPlace} (hu : P.underlying t = some (.slice e)) (he : P.underlying e = some (.int .u8)) (hc : P.cellsOf e = 1)
    (hf : DataW.trod enc P W 0 (fun _ => true) held fuel t [.slice a len cap] = some y) : ∃ l : List Nat, l.length = len ∧ len ≤ cap ∧ (a = none → len = 0) ∧ (∀ j, j < len → ∃ ad, a = some ad ∧ W.cell? (ad.add j) = some (.int .u8 (l.getD j 0 : Nat))) ∧ ∀ x ∈ l, x < 256 := by
  rcases open_ints hu he hc hf with ⟨hcs, _⟩ | ⟨x, l0, c0, zs, hcs, _, hl, hm, hz, _, hcell, hwz⟩
  · simp at hcs
    obtain ⟨rfl, rfl, rfl⟩ := hcs
    exact ⟨[], rfl, Nat.le_refl _, fun _ => rfl, fun j hj => absurd hj (Nat.not_lt_zero _), fun x hx => by cases hx⟩
  · simp at hcs
    obtain ⟨rfl, rfl, rfl⟩ := hcs
    have hz' : zs.length = cap := by simpa using hz
    have hb : ∀ n ∈ zs, 0 ≤ n ∧ n < 256 := fun n hn => by
      have := hwz n hn
      simp [Lit.wf, IntKind.min, IntKind.max, IntKind.bits, IntKind.signed] at this
      omega
    refine ⟨(zs.take len).map Int.toNat, by rw [List.length_map, List.length_take]; omega, hl, fun e => (by cases e), fun j hj => ⟨_, rfl, ?_⟩, fun x hx => ?_⟩
    · have hj2 : j < zs.length := by omega
      have hg := hb (zs[j]) (List.getElem_mem hj2)
      have e1 : zs.getD j 0 = zs[j] := by rw [List.getD_eq_getElem?_getD, List.getElem?_eq_getElem hj2]; rfl
      have e2 : ((zs.take len).map Int.toNat).getD j 0 = zs[j].toNat := by
        rw [List.getD_eq_getElem?_getD, List.getElem?_map, List.getElem?_take_of_lt hj, List.getElem?_eq_getElem hj2]; rfl
      rw [hcell j hj2, e1, e2, Int.toNat_of_nonneg hg.1]
    · obtain ⟨n, hn, rfl⟩ := List.mem_map.1 hx
      have := hb n (List.mem_of_mem_take hn)
      omega
end Go.Proofs.E
end
