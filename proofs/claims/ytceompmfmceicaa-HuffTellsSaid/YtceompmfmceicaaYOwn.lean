/- bits.words, bits.own: walked by hand (own copies). -/
import Derived.Test.YtceompmfmceicaaYBase
import Derived.Test.YtceompmfmceicaaYRow
import Derived.Test.YtceompmfmceicaaWMore
import Derived.Laws.CopyOwn
namespace Go.Proofs.Ytceompmfmceicaa.Own
open Go.RowKit Go.Shelf Go.Lib Go.Proofs Go.Proofs.YtceompmfmceicaaW.PrintWords
set_option linter.unusedVariables false
set_option linter.unusedSimpArgs false

/-- What a copy into a row of one's own leaves. -/
structure Copied (w : World) (g : Nat) (t : TypeId) (cur : List Value) (w' : World) : Prop where
  it : w'.heap[g]? = some (.cells cur.toArray t (0, 0))
  far : ∀ k, k ≠ g → w'.heap[k]? = w.heap[k]?
  size : w'.heap.size = w.heap.size
  tape : w'.tape = w.tape
  os : w'.os = w.os
  output : w'.output = w.output
  drawn : w'.drawn = w.drawn
theorem Copied.bd {w0 w w' : World} {g : Nat} {t : TypeId} {cur : List Value} (h : Copied w g t cur w') (hb : Base.Bd w0 w) (hg : w0.heap.size ≤ g) : Base.Bd w0 w' :=
  ⟨⟨h.os.trans hb.below.os, h.tape.trans hb.below.tape, h.output.trans hb.below.output, by rw [h.size]; exact hb.below.size, fun k hk => (h.far k (by omega)).trans (hb.below.block k hk)⟩, by rw [h.drawn]; exact hb.drawn⟩
theorem copy_row {P : Program} {w : World} {ops : Array Oper} {rest : List Oper} {o : Oper} {a : Act} {Q : Exit → Act → World → Prop} (hgd : o.guard = none) (d s : Operand) (dT sT : TypeId)
    (ho : o.op = .call { callee := .builtin .copy, args := #[d, s], argTypes := #[dT, sT] }) (elem : TypeId) (hu : P.underlying dT = some (.slice elem)) (hsz : (P.info? elem).map (·.size) = some 1)
    (dp sp : Option Addr) (dLen dCap sLen sCap : Nat) (hd : a.eval d = .slice dp dLen dCap) (hs : a.eval s = .slice sp sLen sCap)
    (g off : Nat) (cur : List Value) (t : TypeId) (hg : w.heap[g]? = some (.cells cur.toArray t (0, 0))) (cs : List Value) (hn : cs.length = Nat.min sLen dLen)
    (hpos : 0 < cs.length → dp = some ⟨g, off, none⟩ ∧ ∃ ad, sp = some ad ∧ ∀ j v, cs[j]? = some v → w.cell? (ad.add j) = some v)
    (hfit : off + cs.length ≤ cur.length) (h1 : ∀ v ∈ cs, v.oneCell' = true)
    (h : ∀ w', Copied w g t (splice cur off cs) w' → wpList P ops Q rest (a.put o.dst (goInt cs.length)) w') :
    wpList P ops Q (o :: rest) a w := by
  by_cases h0 : cs.length = 0
  · obtain rfl : cs = [] := List.eq_nil_of_length_eq_zero h0
    refine wpList_copy_nothing hgd d s dT sT ho elem hu hsz dp sp dLen dCap sLen sCap hd hs (by simpa using hn.symm) ?_
    exact h w ⟨by simpa [splice] using hg, fun _ _ => rfl, rfl, rfl, rfl, rfl, rfl⟩
  · obtain ⟨rfl, ad, rfl, hsrc⟩ := hpos (by omega)
    refine wpList_copy_own hgd d s dT sT ho elem hu hsz g off dLen dCap ad sLen sCap hd hs cur.toArray t hg cs hn hsrc (by simpa using hfit) h1 ?_
    exact h _ ⟨by simpa [splice] using setRow_heap w g _ _ t _ hg, fun k hk => setRow_other w g k _ hk, by simp, rfl, rfl, rfl, rfl⟩
theorem words_any (n : Int) (w : World) (h0 : 0 ≤ n) (h1 : n ≤ 1000000000) : Calls Try.prog 48 #[.int .i64 n] w fun e w' => e = .returned (.int .i64 ((n + 63) / 64)) ∧ w = w' := by
  go_enter Try.func48, Try.ntmps48
  go_wp2
  go_ret
  refine ⟨?_, rfl⟩
  show Ending.returned (.int .i64 ((n + 64 - 1) / 64)) = _
  rw [show n + 64 - 1 = n + 63 by omega]
theorem info_u64 : (Try.prog.info? 31).map (fun i => (i.zero, i.size, i.bytes)) = some (some (.int .u64 0), 1, 8) := by kernel_rfl
theorem make_words (m : Nat) (hm : m ≤ 20000000) (w : World) : (Instr.makeSlice 43 (.int .i64 (m : Int)) (.int .i64 (m : Int))).run Try.prog w = .ok (.slice (some ⟨w.heap.size, 0, none⟩) m m) (w.alloc (.cells (List.replicate m (Value.int .u64 0)).toArray 31)) := by
  obtain ⟨i0, hi, hz0, hz1, hz2⟩ := info_parts info_u64
  have h := run_make (P := Try.prog) w 43 31 i0 (.int .u64 0) Try.underlying43 hi hz0 .i64 .i64 (m : Int) (m : Int) (by omega) (by omega) (by rw [hz2]; omega) (by omega)
  rw [hz1, Int.toNat_natCast, Row.made_row] at h
  have e : (List.replicate m (Value.int .u64 0)).toArray = Row.row .u64 m fun _ => 0 := Row.row_ext .u64 m (fun _ => 0) _ (by simp) fun j hj => by rw [List.getElem?_toArray, List.getElem?_replicate, if_pos hj]
  rw [h, e]
theorem size_u64 : (Try.prog.info? 31).map (·.size) = some 1 := by kernel_rfl
def ownL (l : List Int) (m : Nat) : List Int := (l ++ List.replicate m 0).take m
theorem ownL_length (l : List Int) (m : Nat) : (ownL l m).length = m := by simp [ownL]
theorem ownL_splice (l : List Int) (m : Nat) : splice (List.replicate m (Value.int .u64 0)) 0 ((l.take m).map (Value.int .u64)) = (ownL l m).map (Value.int .u64) := by
  unfold splice ownL
  rw [List.take_zero, List.nil_append, Nat.zero_add, List.drop_replicate, List.take_append, List.map_append]
  congr 1
  rw [List.take_replicate, List.map_replicate]
  congr 1
  simp
  omega
set_option maxHeartbeats 8000000 in
set_option maxRecDepth 100000 in
theorem own_any (a0 : Int) (A : Option Addr) (c : Nat) (l : List Int) (n : Int) (w : World) (hr : Kd.C (Kd.int .u64) w A l.length l) (h0 : 0 ≤ n) (h1 : n ≤ 2000000) (hl : l.length ≤ 1000000000) :
    Calls Try.prog 44 #[.agg #[.int .i64 a0, .slice A l.length c], .int .i64 n] w fun e w' => ∃ g m, m = ((n + 63) / 64).toNat ∧ e = .returned (.agg #[.int .i64 n, .slice (some ⟨g, 0, none⟩) m m]) ∧ w.heap.size ≤ g ∧ w'.heap[g]? = some (.cells ((ownL l m).map (Value.int .u64)).toArray 31 (0, 0)) ∧ Below w.heap.size w w' := by
  obtain ⟨m, hm⟩ : ∃ m : Nat, (n + 63) / 64 = (m : Int) := ⟨((n + 63) / 64).toNat, by omega⟩
  have hml : m ≤ 40000 := by omega
  have hw := words_any n
  rw [hm] at hw
  have hmk := make_words m (by omega)
  have HR := Lib.hid hr; have HM := Lib.hid hm
  clear hr hm
  go_enter Try.func44, Try.ntmps44
  go_wp2_with fail
  refine (hw _ (by omega) (by omega)).mono ?_
  rintro e w' ⟨rfl, rfl⟩
  go_wp2_with ((with_reducible refine gate_dst (N := 15) rfl ?_); refine copy_row rfl (.tmp 12) (.tmp 14) 43 43 rfl 31 Try.underlying43 size_u64 (some ⟨w.heap.size + 1 + 1, 0, none⟩) A m m l.length c rfl rfl (w.heap.size + 1 + 1) 0 (List.replicate m (Value.int .u64 0)) 31 ?c1 ((l.take m).map (Value.int .u64)) ?c2 ?c3 ?c4 ?c5 ?_)
  case c1 =>
    have h1 := heap_alloc_new ((w.alloc (Obj.cells #[Value.int .i64 a0, Value.slice A l.length c] 45)).alloc (Obj.cells #[Value.int .i64 0, Value.slice none 0 0] 45)) (Obj.cells (Array.replicate m (Value.int .u64 0)) 31)
    have h2 := blk_alloc h1 (Obj.cells #[Value.int .i64 n, Value.slice (some ⟨w.heap.size + 1 + 1, 0, none⟩) m m] 45)
    simpa using h2
  case c2 => simp; exact Nat.min_comm _ _
  case c3 =>
    intro hp
    have hl0 : 0 < l.length := by omega
    obtain ⟨ad, e, _⟩ := Kd.at_int HR.out 0 (by omega) (by omega)
    refine ⟨ad, e, fun j v hj => ?_⟩
    rw [← List.map_take, List.getElem?_map] at hj
    obtain ⟨x, hx, rfl⟩ := Option.map_eq_some_iff.1 hj
    have hjl : j < l.length := by
      have := (List.getElem?_eq_some_iff.1 hx).1
      rw [List.length_take] at this
      omega
    obtain ⟨ad2, e2, hc⟩ := Kd.at_int HR.out (j : Int) (by omega) (by omega)
    obtain rfl : ad = ad2 := by rw [e] at e2; injection e2
    rw [Int.toNat_natCast] at hc
    have hxx : rd l (j : Int) = x := by
      unfold rd
      rw [Int.toNat_natCast, List.getD_eq_getElem?_getD]
      rw [List.getElem?_take] at hx
      split at hx
      · rw [hx]; rfl
      · cases hx
    rw [hxx] at hc
    have hlt := World.block_lt_of_cell? w _ hc
    rw [World.cell?_alloc_lt _ _ _ (by simp; omega), World.cell?_alloc_lt _ _ _ (by simp; omega), World.cell?_alloc_lt _ _ _ (by simp; omega), World.cell?_alloc_lt _ _ _ hlt]
    exact hc
  case c4 => simp; omega
  case c5 => intro v hv; obtain ⟨x, _, rfl⟩ := List.mem_map.1 hv; rfl
  intro w2 hcp
  have hcp2 : Copied ((((w.alloc (Obj.cells #[Value.int .i64 a0, Value.slice A l.length c] 45)).alloc (Obj.cells #[Value.int .i64 0, Value.slice none 0 0] 45)).alloc (Obj.cells (Array.replicate m (Value.int .u64 0)) 31)).alloc (Obj.cells #[Value.int .i64 n, Value.slice (some ⟨w.heap.size + 1 + 1, 0, none⟩) m m] 45)) (w.heap.size + 1 + 1) 31 ((ownL l m).map (Value.int .u64)) w2 := by rw [← ownL_splice]; simpa using hcp
  clear hcp
  have b0 : Base.Bd w ((((w.alloc (Obj.cells #[Value.int .i64 a0, Value.slice A l.length c] 45)).alloc (Obj.cells #[Value.int .i64 0, Value.slice none 0 0] 45)).alloc (Obj.cells (Array.replicate m (Value.int .u64 0)) 31)).alloc (Obj.cells #[Value.int .i64 n, Value.slice (some ⟨w.heap.size + 1 + 1, 0, none⟩) m m] 45)) :=
    (((Base.Bd.alloc w _).trans (Base.Bd.alloc _ _)).trans (Base.Bd.alloc _ _)).trans (Base.Bd.alloc _ _)
  have HB := Lib.hid (hcp2.bd b0 (by omega))
  have f1 : w2.heap[w.heap.size + 1 + 1 + 1]? = some (.cells #[Value.int .i64 n, Value.slice (some ⟨w.heap.size + 1 + 1, 0, none⟩) m m] 45 (0, 0)) := by
    refine (hcp2.far _ (by omega)).trans ?_
    have h1 := heap_alloc_new (((w.alloc (Obj.cells #[Value.int .i64 a0, Value.slice A l.length c] 45)).alloc (Obj.cells #[Value.int .i64 0, Value.slice none 0 0] 45)).alloc (Obj.cells (Array.replicate m (Value.int .u64 0)) 31)) (Obj.cells #[Value.int .i64 n, Value.slice (some ⟨w.heap.size + 1 + 1, 0, none⟩) m m] 45)
    simpa using h1
  have f2 : w2.heap[w.heap.size + 1]? = some (.cells #[Value.int .i64 0, Value.slice none 0 0] 45 (0, 0)) := by
    refine (hcp2.far _ (by omega)).trans ?_
    have h1 := heap_alloc_new (w.alloc (Obj.cells #[Value.int .i64 a0, Value.slice A l.length c] 45)) (Obj.cells #[Value.int .i64 0, Value.slice none 0 0] 45)
    have h2 := blk_alloc (blk_alloc h1 (Obj.cells (Array.replicate m (Value.int .u64 0)) 31)) (Obj.cells #[Value.int .i64 n, Value.slice (some ⟨w.heap.size + 1 + 1, 0, none⟩) m m] 45)
    simpa using h2
  have c1 := (Row.cell_of f1 (j := 0) rfl).1; have c2 := (Row.cell_of f1 (j := 1) rfl).1
  have d1 := (Row.cell_of f2 (j := 0) rfl).1; have d2 := (Row.cell_of f2 (j := 1) rfl).1
  have e1 := (Row.cell_of f2 (j := 0) rfl).2; have e2 := (Row.cell_of f2 (j := 1) rfl).2
  have HI := Lib.hid hcp2.it
  clear hcp2 b0 f1 f2
  go_wp2
  refine bodyPost_ret (v := .agg #[.int .i64 n, .slice (some ⟨w.heap.size + 1 + 1, 0, none⟩) m m]) (by simp [results, Try.results44, go_sem, d1, d2, e1, e2]) rfl ?_
  refine ⟨w.heap.size + 1 + 1, m, by have := HM.out; omega, rfl, by omega, ?_, ?_⟩
  · rw [Row.set_far _ _ _ _ (by show w.heap.size + 1 + 1 ≠ w.heap.size + 1; omega) (Row.set_far _ _ _ _ (by show w.heap.size + 1 + 1 ≠ w.heap.size + 1; omega) HI.out)]
  · exact ((HB.out.setCell (by show w.heap.size ≤ w.heap.size + 1; omega) _).setCell (by show w.heap.size ≤ w.heap.size + 1; omega) _).below
end Go.Proofs.Ytceompmfmceicaa.Own
