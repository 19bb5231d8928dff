/- Words of this project, beside those of the print: a slice of bytes that is converted to its own type is marked, and read as before. -/
import Derived.Test.YtceompmfmceicaaWMore
import Derived.Test.YtceompmfmceicaaWNEv
import Derived.Laws.IdiomStrings
namespace Go.Proofs.YtceompmfmceicaaW.PrintMine
open Go.RowKit Go.Proofs.YtceompmfmceicaaW.PrintWords Go.Proofs.YtceompmfmceicaaW.PrintLast Go.Proofs.YtceompmfmceicaaW.PrintMore
set_option linter.unusedVariables false

theorem freeze_block (W : World) (g e : Nat) (cells : Array Value) (hg : W.heap[g]? = some (.cells cells e (0, 0))) :
    (W.freeze ⟨g, cells.size, none⟩ 1).heap[g]? = some (.cells cells e (cells.size, cells.size + 1)) := by
  unfold World.freeze
  rw [if_neg (by decide)]
  show (W.heap.modify g _)[g]? = _
  rw [Array.getElem?_modify, if_pos rfl, hg]
  rfl
theorem freeze_other (W : World) (g n : Nat) (k : Nat) (hk : k ≠ g) : (W.freeze ⟨g, n, none⟩ 1).heap[k]? = W.heap[k]? := by
  unfold World.freeze
  rw [if_neg (by decide)]
  show (W.heap.modify g _)[k]? = _
  rw [Array.getElem?_modify, if_neg (Ne.symm hk)]
theorem freeze_size (W : World) (g n : Nat) : (W.freeze ⟨g, n, none⟩ 1).heap.size = W.heap.size := by
  unfold World.freeze
  rw [if_neg (by decide)]
  exact Array.size_modify
theorem freeze_grown (W : World) (g n : Nat) : W.grownBy (W.freeze ⟨g, n, none⟩ 1) (some g) := by
  refine ⟨?_, ?_, ?_, ?_, ?_⟩
  · unfold World.freeze; rw [if_neg (by decide)]
  · unfold World.freeze; rw [if_neg (by decide)]
  · unfold World.freeze; rw [if_neg (by decide)]
  · rw [freeze_size]; exact Nat.le_refl _
  · intro k _ hk
    exact freeze_other W g n k (fun e => hk (by rw [e]))
theorem run_conv {P : Program} {W : World} {t e g n c : Nat} {cells : Array Value} (ht : P.underlying t = some (.slice e)) (he : P.underlying e = some (.int .u8)) (hg : W.heap[g]? = some (.cells cells e (0, 0))) :
    (convert t t (.slice (some ⟨g, 0, none⟩) n c)).run P W = .ok (.slice (some ⟨g, 0, none⟩) n c) (W.freeze ⟨g, cells.size, none⟩ 1) := by
  have hsh : W.shape? g = some (e, cells.size) := by
    unfold World.shape?
    rw [hg]
  simp [convert, run_underlying ht, run_underlying he, markStringish, hsh]
theorem cell_frozen {W W' : World} {g : Nat} {cells : Array Value} {e : Nat} {fz fz' : Nat × Nat} (h : W.heap[g]? = some (.cells cells e fz)) (h' : W'.heap[g]? = some (.cells cells e fz')) (a : Addr) (ha : a.block = g) : W'.cell? a = W.cell? a := by
  subst ha
  simp only [World.cell?, h, h']
theorem conv_V {W : World} {e base : Nat} {ok : Nat → Prop} {g n c : Nat} {xs : List Int} {cells : Array Value} (hR : (Kd.int .u8).R e W base ok (.slice (some ⟨g, 0, none⟩) n c) xs) (hg : W.heap[g]? = some (.cells cells e (0, 0))) :
    (Kd.int .u8).V e (W.freeze ⟨g, cells.size, none⟩ 1) base ok (.slice (some ⟨g, 0, none⟩) n c) xs := by
  have h1 := Kd.R_reads' hR
  obtain ⟨hn, hc, hC⟩ := h1
  subst hn
  refine ⟨_, c, rfl, hc, fun W' hW' => ?_⟩
  have hokg : ok g := hR.1 g (by simp [Value.ownBlock])
  have hlt : g < W.heap.size := (Array.getElem?_eq_some_iff.1 hg).1
  have hb : W'.heap[g]? = some (.cells cells e (cells.size, cells.size + 1)) := by
    rw [hW' g hokg (by rw [freeze_size]; exact hlt), freeze_block W g e cells hg]
  refine ⟨hC.1, hC.2.1, fun hp => ?_⟩
  obtain ⟨ad, ead, hcell⟩ := hC.2.2 hp
  refine ⟨ad, ead, fun j p hj => ?_⟩
  obtain ⟨cc, h1, h2, h3⟩ := hcell j p hj
  refine ⟨cc, h1, h2, fun i u hu => ?_⟩
  have hbk : (ad.add (j * (Kd.int .u8).sz + i)).block = g := by
    cases ead
    unfold Addr.add
    split <;> rfl
  rw [cell_frozen hg hb _ hbk]
  exact h3 i u hu
section
variable {P : Program} {ops : Array Oper} {rest : List Oper} {o : Oper} {a : Act} {Q : Exit → Act → World → Prop} {Kc : Act → World → Prop}
theorem conv_event {W w0 : World} {base e t : Nat} {ta : Tmp} {ok : Nat → Prop} {v : Value} {xs : List Int} (ho : o.op = .convert t t (.tmp ta)) (hv : a.eval (.tmp ta) = v)
    (ht : P.underlying t = some (.slice e)) (he : P.underlying e = some (.int .u8)) (hR : (Kd.int .u8).R e W base ok v xs) (hne : 0 < xs.length) (HB : Below base w0 W) (hbase : base ≤ W.heap.size) :
    ∃ w1, (execOp a.eval o).run P W = .ok (.value v) w1 ∧ (Kd.int .u8).V e w1 base ok v xs ∧ Below base w0 w1 ∧ W.grownBy w1 v.ownBlock := by
  obtain ⟨h0, inner, how, hr⟩ := hR
  have hR : (Kd.int .u8).R e W base ok v xs := ⟨h0, inner, how, hr⟩
  rcases how.2 with ⟨rfl, hz⟩ | ⟨g, cap, cur, rfl, hb, hg, hrest⟩
  · omega
  · refine ⟨_, ?_, conv_V hR hg, ?_, freeze_grown W g _⟩
    · have := run_conv (n := xs.length) (c := cap) ht he hg
      have hx : execOp a.eval o = (do pure (.value (← convert t t (a.eval (.tmp ta))))) := by
        unfold execOp
        rw [ho]
      rw [hx, hv]
      simp [this]
    · exact HB.grown (freeze_grown W g _) hbase (fun k hk => by cases hk; exact hb)
theorem R_conv {W w0 : World} (base : Nat) (hgd : o.guard = none) {N : Tmp} (_hd : o.dst = some N) (e t : Nat) (ta : Tmp) (ok : Nat → Prop) (v : Value) (xs : List Int) (ho : o.op = .convert t t (.tmp ta)) (hv : a.eval (.tmp ta) = v)
    (ht : P.underlying t = some (.slice e)) (he : P.underlying e = some (.int .u8)) (hR : (Kd.int .u8).R e W base ok v xs) (hne : 0 < xs.length) (HB : Below base w0 W) (hbase : base ≤ W.heap.size)
    (h : ∀ w1, (Kd.int .u8).V e w1 base ok v xs → Below base w0 w1 → W.grownBy w1 v.ownBlock → wpList P ops Q rest (a.put o.dst v) w1) : wpList P ops Q (o :: rest) a W := by
  obtain ⟨w1, hrun, hV, hB, hG⟩ := conv_event ho hv ht he hR hne HB hbase
  exact Kd.event_run hgd hrun (h w1 hV hB hG)
theorem R_conv_step {W w0 : World} (base : Nat) (hw : Region.wanted o (yielded ops a.tmps) = true) {N : Tmp} (_hd : o.dst = some N) (e t : Nat) (ta : Tmp) (ok : Nat → Prop) (v : Value) (xs : List Int) (ho : o.op = .convert t t (.tmp ta)) (hv : a.eval (.tmp ta) = v)
    (ht : P.underlying t = some (.slice e)) (he : P.underlying e = some (.int .u8)) (hR : (Kd.int .u8).R e W base ok v xs) (hne : 0 < xs.length) (HB : Below base w0 W) (hbase : base ≤ W.heap.size)
    (h : ∀ w1, (Kd.int .u8).V e w1 base ok v xs → Below base w0 w1 → W.grownBy w1 v.ownBlock → Kc (a.put o.dst v) w1) : if Region.wanted o (yielded ops a.tmps) = true then Oper.wp P o a W Kc Q else Kc (a.put o.dst undef) W := by
  obtain ⟨w1, hrun, hV, hB, hG⟩ := conv_event ho hv ht he hR hne HB hbase
  exact event_step hw hrun (h w1 hV hB hG)
end
/-! make([]T, 0, c): a row without elements, and a capacity. -/
section
variable {P : Program} {ops : Array Oper} {rest : List Oper} {o : Oper} {a : Act} {Q : Exit → Act → World → Prop} {Kc : Act → World → Prop} {α : Type}
theorem make0_event (d : Kd α) {w0 W : World} (base e : Nat) (t : TypeId) (x y : Operand) (ho : o.op = .makeSlice t x y) (n : Int) (hx : a.eval x = .int .i64 0) (hy : a.eval y = .int .i64 n)
    (ht : P.underlying t = some (.slice e)) (z : Value) (bytes : Nat) (hinfo : (P.info? e).map (fun i => (i.zero, i.size, i.bytes)) = some (some z, d.sz, bytes)) (hz : z.cells.size = d.sz) (hs0 : 0 < d.sz) (hb0 : 0 < bytes)
    {ok : Nat → Prop} (hfresh : ok W.heap.size) (h0 : 0 ≤ n) (hl : n.toNat * bytes ≤ 281474976710656) (HB : Below base w0 W) (hbase : base ≤ W.heap.size) :
    ∃ w1 v1, (execOp a.eval o).run P W = .ok (.value v1) w1 ∧ d.R e w1 base ok v1 ([] : List α) ∧ Below base w0 w1 ∧ W.grownBy w1 none ∧ (∃ b, v1.ownBlock = some b ∧ W.heap.size ≤ b) := by
  obtain ⟨m, rfl⟩ := Int.eq_ofNat_of_zero_le h0
  simp only [Int.toNat_natCast] at hl
  obtain ⟨i0, hi, hzz⟩ := Option.map_eq_some_iff.1 hinfo
  simp only [Prod.mk.injEq] at hzz
  obtain ⟨hz0, hz1, hz2⟩ := hzz
  have hm : m ≤ 281474976710656 := Nat.le_trans (Nat.le_mul_of_pos_right _ hb0) hl
  have hr := run_make (P := P) W t e i0 z ht hi hz0 .i64 .i64 (0 : Int) (m : Int) (by omega) (by omega)
    (by
      have h3 : ((i0.bytes * m : Nat) : Int) ≤ 281474976710656 := by rw [hz2, Nat.mul_comm]; omega
      rwa [Int.natCast_mul] at h3) (by omega)
  simp only [Int.toNat_natCast] at hr
  rw [hz1] at hr
  refine ⟨W.alloc (.cells (madeCells z.cells (m * d.sz)) e), .slice (some ⟨W.heap.size, 0, none⟩) 0 m, ?_, ?_, HB.alloc hbase _, World.grownBy_alloc W _ none, ⟨W.heap.size, by simp [Value.ownBlock], Nat.le_refl _⟩⟩
  · simp [execOp, ho, hx, hy, hr]
  · refine ⟨fun k hk => ?_, [], ?_, ⟨by simp, fun j p hj => by simp at hj⟩⟩
    · have : W.heap.size = k := by simpa [Value.ownBlock] using hk
      subst this
      exact hfresh
    · refine ⟨by simp, .inr ⟨W.heap.size, m, _, rfl, hbase, heap_alloc_new W _, Nat.zero_le _, by unfold maxLen; omega, by simp [size_madeCells], by simp⟩⟩
theorem R_make0 (d : Kd α) {w0 W : World} (base e : Nat) (hgd : o.guard = none) {N : Tmp} (_hd : o.dst = some N) (t : TypeId) (x y : Operand) (ho : o.op = .makeSlice t x y) (n : Int) (hx : a.eval x = .int .i64 0) (hy : a.eval y = .int .i64 n)
    (ht : P.underlying t = some (.slice e)) (z : Value) (bytes : Nat) (hinfo : (P.info? e).map (fun i => (i.zero, i.size, i.bytes)) = some (some z, d.sz, bytes)) (hz : z.cells.size = d.sz) (hs0 : 0 < d.sz) (hb0 : 0 < bytes)
    {ok : Nat → Prop} (hfresh : ok W.heap.size) (h0 : 0 ≤ n) (hl : n.toNat * bytes ≤ 281474976710656) (HB : Below base w0 W) (hbase : base ≤ W.heap.size)
    (h : ∀ v1 w1, d.R e w1 base ok v1 ([] : List α) → Below base w0 w1 → W.grownBy w1 none → (∃ b, v1.ownBlock = some b ∧ W.heap.size ≤ b) → wpList P ops Q rest (a.put o.dst v1) w1) : wpList P ops Q (o :: rest) a W := by
  obtain ⟨w1, v1, hrun, hR, hB, hG, hb⟩ := make0_event d base e t x y ho n hx hy ht z bytes hinfo hz hs0 hb0 hfresh h0 hl HB hbase
  exact Kd.event_run hgd hrun (h v1 w1 hR hB hG hb)
theorem R_make0_step (d : Kd α) {w0 W : World} (base e : Nat) (hw : Region.wanted o (yielded ops a.tmps) = true) {N : Tmp} (_hd : o.dst = some N) (t : TypeId) (x y : Operand) (ho : o.op = .makeSlice t x y) (n : Int) (hx : a.eval x = .int .i64 0) (hy : a.eval y = .int .i64 n)
    (ht : P.underlying t = some (.slice e)) (z : Value) (bytes : Nat) (hinfo : (P.info? e).map (fun i => (i.zero, i.size, i.bytes)) = some (some z, d.sz, bytes)) (hz : z.cells.size = d.sz) (hs0 : 0 < d.sz) (hb0 : 0 < bytes)
    {ok : Nat → Prop} (hfresh : ok W.heap.size) (h0 : 0 ≤ n) (hl : n.toNat * bytes ≤ 281474976710656) (HB : Below base w0 W) (hbase : base ≤ W.heap.size)
    (h : ∀ v1 w1, d.R e w1 base ok v1 ([] : List α) → Below base w0 w1 → W.grownBy w1 none → (∃ b, v1.ownBlock = some b ∧ W.heap.size ≤ b) → Kc (a.put o.dst v1) w1) : if Region.wanted o (yielded ops a.tmps) = true then Oper.wp P o a W Kc Q else Kc (a.put o.dst undef) W := by
  obtain ⟨w1, v1, hrun, hR, hB, hG, hb⟩ := make0_event d base e t x y ho n hx hy ht z bytes hinfo hz hs0 hb0 hfresh h0 hl HB hbase
  exact event_step hw hrun (h v1 w1 hR hB hG hb)
end
end Go.Proofs.YtceompmfmceicaaW.PrintMine
