/- bwt.firsts, walked. -/
import Derived.Test.YtalhipjgafjmoaaYSpec
import Derived.Test.YtalhipjgafjmoaaMathCnt
import Derived.Test.YtalhipjgafjmoaaWWords
import Derived.Deep.MidRow
namespace Go.Proofs.Ytalhipjgafjmoaa.Bwt
open Go.RowKit Go.Proofs.Ytalhipjgafjmoaa.Suf Go.Proofs.YtalhipjgafjmoaaW.PrintWords
set_option linter.unusedVariables false
set_option linter.unusedSimpArgs false

/-- A function on 0 .. 255, as the array's cells. -/
def arr (f : Nat → Int) : Array Value := ((List.range 256).map fun i => Value.int .i64 (f i)).toArray
theorem arr_size (f : Nat → Int) : (arr f).size = 256 := by simp [arr]
theorem arr_get (f : Nat → Int) (k : Nat) (h : k < 256) : (arr f)[k]? = some (.int .i64 (f k)) := by
  unfold arr
  rw [List.getElem?_toArray, List.getElem?_map, List.getElem?_range h]
  rfl
theorem arr_ext (f : Nat → Int) (cs : Array Value) (hs : cs.size = 256) (h : ∀ k, k < 256 → cs[k]? = some (.int .i64 (f k))) : cs = arr f := by
  apply Array.ext_getElem?
  intro j
  rcases Nat.lt_or_ge j 256 with hj | hj
  · rw [h j hj, arr_get f j hj]
  · rw [Array.getElem?_eq_none (by omega), Array.getElem?_eq_none (by rw [arr_size]; omega)]
theorem arr_set (f g : Nat → Int) (k : Nat) (v : Int) (hk : k < 256) (hv : g k = v) (hg : ∀ j, j < 256 → j ≠ k → g j = f j) : (arr f).setIfInBounds k (.int .i64 v) = arr g := by
  refine arr_ext g _ (by rw [Array.size_setIfInBounds]; exact arr_size f) fun j hj => ?_
  rw [Array.getElem?_setIfInBounds]
  by_cases e : k = j
  · subst e
    rw [if_pos rfl, if_pos (by rw [arr_size]; exact hk), hv]
  · rw [if_neg e, arr_get f j hj, hg j hj (Ne.symm e)]
theorem zero_arr (w : World) : (zeroValue 57).run Try.prog w = .ok (.agg (arr fun _ => 0)) w := by kernel_rfl

theorem run_index_arr (cs : Array Value) (j : Nat) (v : Value) (w : World) (hj : j < 256) (hv : cs[j]? = some v) : (Instr.index 57 (.agg cs) (.int .i64 (j : Int))).run Try.prog w = .ok v w := by
  have h1 : (0 : Int) ≤ (j : Int) ∧ (j : Int) < (256 : Nat) := by omega
  have hs : (sizeOf 3).run Try.prog w = .ok 1 w := by kernel_rfl
  have ha : (isAgg 3).run Try.prog w = .ok false w := by kernel_rfl
  unfold Instr.index
  rw [Sem.run_bind]
  simp only [asIntOf, Sem.run_pure, Result.andThen_ok, Sem.run_bind, run_underlying Try.underlying57 w]
  rw [if_pos h1]
  simp only [Sem.run_bind, hs, Result.andThen_ok, part, ha, Int.toNat_natCast, Nat.mul_one]
  simp [hv]
structure Cts (w : World) (l : List Int) (i : Nat) (W : World) : Prop where
  bd : Bd w W
  sz : W.heap.size = w.heap.size + 1
  ar : W.heap[w.heap.size]? = some (.cells (arr (cnt l i)) 57 (0, 0))
theorem Cts.cell {w W : World} {l : List Int} {i : Nat} (h : Cts w l i W) (k : Nat) (hk : k < 256) : W.cell? ⟨w.heap.size, k, none⟩ = some (.int .i64 (cnt l i k)) ∧ W.frozen? ⟨w.heap.size, k, none⟩ = false := by
  constructor
  · simp only [World.cell?, h.ar]
    exact arr_get _ k hk
  · simp [World.frozen?, h.ar]
theorem Cts.step {w W : World} {l : List Int} {i : Nat} (h : Cts w l i W) (hi : i < l.length) (x : Nat) (hx : l.getD i 0 = (x : Int)) (hx2 : x < 256) : Cts w l (i + 1) (W.setCell ⟨w.heap.size, x, none⟩ (.int .i64 (cnt l i x + 1))) := by
  refine ⟨?_, by rw [size_set]; exact h.sz, ?_⟩
  · exact h.bd.setCell (Nat.le_refl _) _
  · rw [row_set h.ar, arr_set (cnt l i) (cnt l (i + 1)) x _ hx2 (by rw [cnt_succ l i x hi, if_pos hx]) fun j hj hne => by rw [cnt_succ l i j hi, if_neg (by omega)]; omega]

set_option maxHeartbeats 4000000 in
set_option maxRecDepth 20000 in
theorem firsts_any (A : Option Addr) (c : Nat) (l : List Int) (w : World) (hn : l.length ≤ 9000000000000000000) (hA : ∀ k, k < l.length → ∃ ad, A = some ad ∧ w.cell? (ad.add k) = some (.int .u8 (l.getD k 0))) (hb8 : ∀ k, k < l.length → 0 ≤ l.getD k 0 ∧ l.getD k 0 < 256) :
    Calls Try.prog 21 #[.slice A l.length c] w fun e w' => ∃ v, e = .returned v ∧ w'.ownsRow w.heap.size 3 1 v (fstTo l 256).length (nums .i64 (fstTo l 256)) ∧ Below w.heap.size w w' := by
  go_enter Try.func21, Try.ntmps21
  have hz := zero_arr
  go_wp2
  have F0 : Cts w l 0 (w.alloc (Obj.cells (arr fun x => 0) 57)) := ⟨Bd.alloc w _, by show (w.heap.push _).size = _; exact Array.size_push .., heap_alloc_new w _⟩
  go_loopw [11] (fun v wr => ∃ i : Nat, i ≤ l.length ∧ v = .int .i64 (i : Int) ∧ Cts w l i wr) (fun v _ => l.length - (intOf v).toNat)
  case atStart => exact ⟨0, Nat.zero_le _, rfl, F0⟩
  case round =>
    obtain ⟨i, hi, rfl, hC⟩ := hrel
    by_cases hlt : i < l.length
    · have hlt' : (i : Int) < (l.length : Int) := by omega
      obtain ⟨ad, rfl, hca⟩ := hA i hlt
      have hb := hb8 i hlt
      have e0 := hC.bd.cell hca
      obtain ⟨x, hx⟩ : ∃ x : Nat, l.getD i 0 = (x : Int) := ⟨(l.getD i 0).toNat, by omega⟩
      rw [hx] at e0 hb
      have hst := hC.step hlt x hx (by omega)
      obtain ⟨e1, e2⟩ := hC.cell x (by omega)
      have hle := cnt_le l i x
      have hx2 : (x : Int) < 256 := by omega
      go_wp2
      refine ⟨⟨i + 1, by omega, by rw [show ((i + 1 : Nat) : Int) = (i : Int) + 1 by omega], ?_⟩, by simp [intOf]; omega⟩
      exact hst
    · obtain rfl : i = l.length := by omega
      have hlt' : ¬ (l.length : Int) < (l.length : Int) := by omega
      obtain ⟨cs, hcs⟩ : ∃ cs, cs = arr (cnt l l.length) := ⟨_, rfl⟩
      have hrg : (wr.alloc (Obj.cells #[Value.int .i64 1] 3)).rangeAt w.heap.size 0 cs.toList := by
        intro j v hv
        rw [hcs] at hv
        refine (Bd.alloc wr _).cell ?_
        simp only [World.cell?, hC.ar, Nat.zero_add]
        simpa using hv
      have hsz : (Try.prog.info? 57).map (·.size) = some cs.toList.length := by rw [hcs, Array.length_toList, arr_size]; kernel_rfl
      clear F0 hz
      go_wp2_with ((with_reducible refine gate_dst (N := 22) rfl ?_); refine wpList_load_mid rfl 57 _ rfl w.heap.size 0 rfl cs.toList _ hrg Try.underlying57 rfl hsz ?_)
      have hb0 : ∀ x ∈ l, 0 ≤ x := by
        intro x hx
        obtain ⟨q, hq, rfl⟩ := List.mem_iff_getElem.1 hx
        have := (hb8 q hq).1
        rwa [List.getD_eq_getElem?_getD, List.getElem?_eq_getElem hq] at this
      obtain ⟨W0, hW0⟩ : ∃ W0, W0 = wr.alloc (Obj.cells #[Value.int .i64 1] 3) := ⟨_, rfl⟩
      rw [← hW0]
      have O0 : W0.ownsRow w.heap.size 3 1 (.slice (some ⟨wr.heap.size, 0, none⟩) 1 1) (fstTo l 0).length (nums .i64 (fstTo l 0)) := by
        rw [fstTo_zero l hb0, hW0]
        refine ⟨rfl, .inr ⟨wr.heap.size, 1, #[.int .i64 1], rfl, by rw [hC.sz]; omega, heap_alloc_new wr _, Nat.le_refl _, by unfold maxLen; omega, rfl, rfl⟩⟩
      have B0 : Below w.heap.size w W0 := by rw [hW0]; exact (hC.bd.trans (Bd.alloc wr _)).below
      clear hW0 hC hrg hsz
      go_loopw [23, 6] (fun v v6 W => ∃ j : Nat, j ≤ 256 ∧ v = .int .i64 (j : Int) ∧ W.ownsRow w.heap.size 3 1 v6 (fstTo l j).length (nums .i64 (fstTo l j)) ∧ Below w.heap.size w W) (fun v _ _ => 256 - (intOf v).toNat)
      case atStart => exact ⟨0, Nat.zero_le _, rfl, O0, B0⟩
      case round =>
        obtain ⟨j, hj, rfl, hO, hB⟩ := hrel
        by_cases hlt2 : j < 256
        · have hl3 : (j : Int) < 256 := by omega
          have hO' := hO
          have hlen := fstTo_length l j
          obtain ⟨hO1, ⟨-, h0⟩ | ⟨g, cap, cur, rfl, hg1, hg2, hle, hcap, hcs2, htk⟩⟩ := hO
          · omega
          have hgc : wr.cell? ⟨g, j, none⟩ = some (.int .i64 (fst l j)) := by
            simp only [World.cell?, hg2]
            have h1 : (cur.toList.take ((fstTo l j).length * 1))[j]? = some (.int .i64 (fst l j)) := by
              rw [htk]
              unfold nums
              rw [List.getElem?_map, List.getElem?_eq_getElem (by omega)]
              have := fstTo_get l j j (Nat.le_refl _)
              rw [List.getD_eq_getElem?_getD, List.getElem?_eq_getElem (by omega)] at this
              simp only [Option.getD_some] at this
              rw [Option.map_some, this]
            rw [List.getElem?_take_of_lt (by omega)] at h1
            simpa using h1
          have hix := run_index_arr (arr (cnt l l.length)) j _ wr hlt2 (arr_get _ j hlt2)
          have hfs := fst_succ l j
          have hfl := fst_le l j
          have hfl2 := fst_le l (j + 1)
          have hcl := cnt_le l l.length j
          have hwr : wrap64 (fst l j + cnt l l.length j) = fst l j + cnt l l.length j := by unfold wrap64; omega
          have hjn : (j : Int) < (j : Int) + 1 := by omega
          have hinf : (Try.prog.info? 3).map (fun i => (i.zero, i.size, i.bytes)) = some (some (.int .i64 0), 1, 8) := by kernel_rfl
          have hbs := hB.size
          rw [hlen] at hle
          have hO2 : wr.ownsRow w.heap.size 3 1 (.slice (some ⟨g, 0, none⟩) (j + 1) cap) (fstTo l j).length (nums .i64 (fstTo l j)) := by rw [← hlen]; exact hO'
          rw [hlen]
          clear hg2 htk hO' hcs2 hO1
          have HO := Lib.hid hO2
          have HB := Lib.hid hB
          have HF := Lib.hid hfs
          clear hO2 hB O0 B0 hA hb8 hb0 hfs hfl hfl2 hcl
          go_wp2_with ((with_reducible refine gate_dst (N := 35) rfl ?_); refine print_append_num (w0 := w) w.heap.size rfl (.tmp 27) (.tmp 34) 23 3 .i64 8 rfl Try.underlying23 hinf (by decide) _ (fstTo l j) (fst l j + cnt l l.length j) rfl rfl HO.out HB.out hbs (by rw [hlen]; omega) ?_; intro v1 w1 ho1 hb1 hg1 hat1)
          refine ⟨⟨j + 1, by omega, by rw [show ((j + 1 : Nat) : Int) = (j : Int) + 1 by omega], by rw [fstTo_succ, HF.out]; exact ho1, hb1⟩, by simp [intOf]; omega⟩
        · obtain rfl : j = 256 := by omega
          have hl3 : ¬ ((256 : Nat) : Int) < 256 := by omega
          have HO := Lib.hid hO
          have HB := Lib.hid hB
          clear hO hB O0 B0 hA hb8 hb0
          go_wp2
          go_ret
          exact ⟨_, rfl, HO.out, HB.out⟩
end Go.Proofs.Ytalhipjgafjmoaa.Bwt
