/- Part 2 of what this claim leans on: E9, EA, EB, EC, ED, EE, EF, EG. -/
import Derived.Test.YtdoooffmaokaeaaGreatDoorZ1
import Derived.Laws.MakeOwn
import Derived.WalkSmall
import Derived.WalkMore
/- The machine of values: its operations, one by one (5): slices that are made, cut. Of no function. -/
section
set_option linter.unusedVariables false
set_option linter.unusedSimpArgs false
set_option linter.unusedSectionVars false
namespace Go.Proofs.E
open Go
set_option linter.unusedVariables false
set_option linter.unusedSimpArgs false
theorem get_flat {α : Type} (zs : List α) (n j : Nat) : ((List.replicate n zs).flatten)[j]? = if j < n * zs.length then zs[j % zs.length]? else none := by
  induction n generalizing j with
  | zero => simp
  | succ n ih =>
    simp only [List.replicate_succ, List.flatten_cons]
    by_cases c : j < zs.length
    · rw [List.getElem?_append_left c, Nat.mod_eq_of_lt c, if_pos (by rw [Nat.succ_mul]; omega)]
    · rw [List.getElem?_append_right (by omega), ih]
      have e : (j - zs.length) % zs.length = j % zs.length := by rw [← Nat.mod_eq_sub_mod (by omega)]
      rw [e]
      by_cases c2 : j < (n + 1) * zs.length
      · rw [if_pos c2, if_pos (by rw [Nat.succ_mul] at c2; omega)]
      · rw [if_neg c2, if_neg (by rw [Nat.succ_mul] at c2; omega)]
theorem length_flat {α : Type} (zs : List α) (n : Nat) : ((List.replicate n zs).flatten).length = n * zs.length := by
  induction n with
  | zero => simp
  | succ n ih => simp [List.replicate_succ, Nat.succ_mul, Nat.add_comm]
section
variable {P : Program} {A : Amb} {w : World} {m : Nat → Option Nat} {H : Heap} {F : Nat → Prop} {ρ : Operand → V} {ρ' : Operand → Value}
/-- Zeros in line. -/
theorem zeros_get {zs : List V} {x : Value} (h : RepL P w F m H zs x.cells) (hz : 0 < zs.length) (n k : Nat) (hn : n ≤ k) :
    ∀ (j : Nat) v, ((List.replicate n zs).flatten)[j]? = some v → ∃ y, ((Array.range (k * zs.length)).map (x.cells[· % x.cells.size]!))[j]? = some y ∧ RepV P w F m H v y := by
  intro j v hj
  rw [get_flat] at hj
  split at hj
  · rename_i hlt
    have hk : j < k * zs.length := Nat.lt_of_lt_of_le hlt (Nat.mul_le_mul_right _ hn)
    obtain ⟨y, hy, hr⟩ := h.get hj
    refine ⟨y, ?_, hr⟩
    have hm : j % zs.length < x.cells.size := by rw [h.1]; exact Nat.mod_lt _ hz
    simp only [Array.getElem?_map, Array.getElem?_range, hk, if_true, Option.map_some, h.1]
    rw [getElem!_pos x.cells _ hm]
    rw [Array.getElem?_eq_getElem hm] at hy
    exact hy
  · cases hj
theorem make_yes (hH : RepH P A w m H) (hρ : ∀ x, RepV P w (RO A w m H) m H (ρ x) (ρ' x)) (o : Oper) (t : TypeId) (l c : Operand) (ho : o.op = .makeSlice t l c) {C : Prop} {v : V} {H' : Heap} (h : stp P ρ o.op H = some (C, v, H')) (hC : C) : Yes P A w m H v H' ((execOp ρ' o).run P w) := by
  rw [ho] at h
  simp only [stp] at h
  split at h
  · rename_i k1 l1 k2 c1 e e1 e2 e3
    split at h
    · rename_i z y zs f1 f2 f3
      injection h with h
      injection h with h1 h
      injection h with h2 h3
      subst h1; subst h2; subst h3
      obtain ⟨g1, g2, g3, g4, g5, g6, g7⟩ := hC
      have hl := hρ l
      have hc := hρ c
      rw [e1] at hl; rw [e2] at hc
      obtain ⟨i, hi, hz⟩ := Option.bind_eq_some_iff.1 f3
      obtain ⟨x, hx, hxe⟩ := Option.map_eq_some_iff.1 hz
      obtain ⟨x', hx', hr⟩ := zr_rep f3 w (RO A w m H) m H
      have : x' = x := by simp [zeroValue, typeInfo, hi, hx] at hx'; exact hx'.symm
      subst this
      have hs : i.size = z := by obtain ⟨i', hi', hs⟩ := szT_info f1; rw [hi] at hi'; injection hi' with hi'; rw [hi']; exact hs
      have hy : i.bytes = y := by simpa [byT, hi] using f2
      have hrun := run_make (P := P) w t e i x' (elT_und e3) hi hx k1 k2 l1 c1 g1 g2 (by rw [hy]; exact g3) (by omega)
      have hlc : l1.toNat ≤ c1.toNat := by omega
      have hsz : (madeCells x'.cells (c1.toNat * i.size)).size = c1.toNat * z := by rw [size_madeCells, hs]
      refine ⟨_, _, .slice (some ⟨w.heap.size, 0, none⟩) l1.toNat c1.toNat, .inl ?_, .o _ _ (by simp) hlc ?_ (fun k hk => ?_), hH.new e 0 ((List.replicate l1.toNat zs).flatten) (madeCells x'.cells (c1.toNat * i.size)) ?_ ?_, Keep.new hH _ _⟩
      · simp [execOp, ho, rep_i hl, rep_i hc, hrun]
      · simp only [maxLen]; omega
      · rw [List.getElem?_append_right (Nat.le_refl _), Nat.sub_self] at hk
        injection hk with hk
        subst hk
        refine ⟨Nat.le_refl _, fun _ _ => .inr (.inr ⟨w.heap.size, _, at_self _ _ _, rfl, heap_alloc_new w _, fun _ => ?_⟩)⟩
        have : P.cellsOf e = z := by simp [Program.cellsOf, hi, hs]
        show 0 + c1.toNat * P.cellsOf e ≤ _
        rw [this, hsz]
        omega
      · rw [length_flat, hsz, g5]; exact Nat.mul_le_mul_right _ hlc
      · rw [hs, ← g5]; exact zeros_get hr (by omega) _ _ hlc
    · cases h
  · cases h
/-- A slice's bounds. -/
theorem lo_of {lo : Option Operand} {l : Int} (hρ : ∀ x, RepV P w (RO A w m H) m H (ρ x) (ρ' x)) (hl : loV (lo.map ρ) = some l) : (lo = none ∧ l = 0) ∨ ∃ x k, lo = some x ∧ ρ' x = .int k l := by
  cases lo with
  | none => simp [loV] at hl; exact .inl ⟨rfl, hl.symm⟩
  | some x =>
    have hx := hρ x
    simp only [Option.map_some] at hl
    unfold loV at hl
    split at hl
    · rename_i e; cases e
    · rename_i k y e
      injection e with e
      injection hl with hl
      subst hl
      rw [e] at hx
      exact .inr ⟨x, k, rfl, rep_i hx⟩
    · cases hl
theorem hi_of {hi : Option Operand} {n : Nat} {h : Int} (hρ : ∀ x, RepV P w (RO A w m H) m H (ρ x) (ρ' x)) (hh : hiV n (hi.map ρ) = some h) : (hi = none ∧ h = n) ∨ ∃ x k, hi = some x ∧ ρ' x = .int k h := by
  cases hi with
  | none => simp [hiV] at hh; exact .inl ⟨rfl, hh.symm⟩
  | some x =>
    have hx := hρ x
    simp only [Option.map_some] at hh
    unfold hiV at hh
    split at hh
    · rename_i e; cases e
    · rename_i k y e
      injection e with e
      injection hh with hh
      subst hh
      rw [e] at hx
      exact .inr ⟨x, k, rfl, rep_i hx⟩
    · cases hh
theorem bounds_run {lo hi : Option Operand} {n cap : Nat} {l h : Int} (b : Bool) (hρ : ∀ x, RepV P w (RO A w m H) m H (ρ x) (ρ' x)) (hl : loV (lo.map ρ) = some l) (hh : hiV n (hi.map ρ) = some h) (h0 : 0 ≤ l) (h1 : l ≤ h) (h2 : h ≤ n) (hc : n ≤ cap) :
    (Instr.sliceBounds b n cap (lo.map ρ') (hi.map ρ') none).run P w = .ok (l.toNat, h.toNat, cap) w := by
  have hhc : h ≤ (cap : Int) := by omega
  have hh0 : 0 ≤ h := by omega
  have hlh : l ≤ max h 0 := by omega
  rcases lo_of hρ hl with ⟨rfl, rfl⟩ | ⟨x, k, rfl, hx⟩ <;> rcases hi_of hρ hh with ⟨rfl, rfl⟩ | ⟨y, k', rfl, hy⟩
  · simp [Instr.sliceBounds]
  · cases b <;> simp [Instr.sliceBounds, hy, Instr.sliceBound, asIntOf, hh0, hhc]
  · simp [Instr.sliceBounds, hx, Instr.sliceBound, asIntOf, h0, h1]
  · cases b <;> simp [Instr.sliceBounds, hx, hy, Instr.sliceBound, asIntOf, hh0, hhc, h0, hlh]
end
end Go.Proofs.E
end
/- The machine of values: its operations, one by one (6): slices cut, put together. Of no function. -/
section
set_option linter.unusedVariables false
set_option linter.unusedSimpArgs false
set_option linter.unusedSectionVars false
namespace Go.Proofs.E
open Go
set_option linter.unusedVariables false
set_option linter.unusedSimpArgs false
section
variable {P : Program} {A : Amb} {w : World} {m : Nat → Option Nat} {H : Heap} {F : Nat → Prop} {ρ : Operand → V} {ρ' : Operand → Value}
theorem run_sliceAt_sl {t e : TypeId} (ht : P.underlying t = some (.slice e)) {z : Nat} (hz : szT P e = some z) (a : Option Addr) (n c : Nat) (lo hi : Option Value) (l h : Nat) (hb : (Instr.sliceBounds true n c lo hi none).run P w = .ok (l, h, c) w) :
    (Instr.sliceAt t (.slice a n c) lo hi none).run P w = .ok (.slice (if c = l then a else a.map (·.add (l * z))) (h - l) (c - l)) w := by
  simp [Instr.sliceAt, run_underlying ht, Instr.slice, hb, run_sizeOf hz]
theorem slice_yes (hH : RepH P A w m H) (hρ : ∀ x, RepV P w (RO A w m H) m H (ρ x) (ρ' x)) (o : Oper) (t : TypeId) (x : Operand) (lo hi mx : Option Operand) (ho : o.op = .slice t x lo hi mx) {C : Prop} {v : V} {H' : Heap} (h : stp P ρ o.op H = some (C, v, H')) (hC : C) : Yes P A w m H v H' ((execOp ρ' o).run P w) := by
  rw [ho] at h
  simp only [stp] at h
  obtain ⟨⟨C', v'⟩, hs, h⟩ := Option.map_eq_some_iff.1 h
  injection h with h1 h
  injection h with h2 h3
  subst h1; subst h2; subst h3
  have hx := hρ x
  suffices hg : ∃ u, (Instr.sliceAt t (ρ' x) (lo.map ρ') (hi.map ρ') (mx.map ρ')).run P w = .ok u w ∧ RepV P w (RO A w m H) m H v' u by
    obtain ⟨u, hu, hr⟩ := hg
    exact Yes.pure hH (x := u) (by simp [execOp, ho, hu]) hr
  unfold slV at hs
  split at hs
  · rename_i l hm hl
    have hm : mx = none := by cases mx with | none => rfl | some y => cases hm
    subst hm
    split at hs
    · rename_i e _ f n cs e1 e2
      split at hs
      · rename_i z hh e3 e4
        injection hs with hs
        injection hs with h1 h2
        subst h1; subst h2
        obtain ⟨g0, g1, g2, g3⟩ := hC
        rw [e2] at hx
        generalize hy : ρ' x = y at hx
        cases hx with
        | sl A' c xs hlc hf hA hxs hn =>
          have hb := bounds_run (P := P) (cap := c) true hρ hl e4 g0 g1 g2 hlc
          refine ⟨_, run_sliceAt_sl (elT_und e1) e3 _ _ _ _ _ _ _ hb, ?_⟩
          have hget : ∀ (j : Nat) v, ((cs.drop (l.toNat * z)).take ((hh.toNat - l.toNat) * z))[j]? = some v → cs[l.toNat * z + j]? = some v ∧ j < (hh.toNat - l.toNat) * z := fun j v hj => by
            rw [List.getElem?_take] at hj
            split at hj
            · rename_i hlt
              rw [List.getElem?_drop] at hj
              exact ⟨hj, hlt⟩
            · cases hj
          refine .sl _ _ (fun j => xs (l.toNat * z + j)) (by omega) (fun e => by cases e) (fun j v hj => ?_) (fun j v hj => hxs _ _ (hget j v hj).1) (fun hnone => ?_)
          · obtain ⟨a, ea, hF, hcell⟩ := hA _ _ (hget j v hj).1
            subst ea
            have hne : ¬ c = l.toNat := by
              intro e
              have hlt := (hget j v hj).2
              have : hh.toNat - l.toNat = 0 := by omega
              rw [this] at hlt
              omega
            refine ⟨a.add (l.toNat * z), by rw [if_neg hne]; rfl, by rw [add_block]; exact hF, ?_⟩
            have : (a.add (l.toNat * z)).add j = a.add (l.toNat * z + j) := by
              unfold Addr.add
              by_cases z1 : l.toNat * z = 0
              · simp [z1]
              · by_cases z2 : j = 0
                · simp [z1, z2]
                · simp [z1, z2, Nat.add_assoc]
            rw [this]
            exact hcell
          · cases A' with
            | none => have n1 := hn rfl; omega
            | some a => split at hnone <;> cases hnone
      · cases hs
    · rename_i e _ b g off n e1 e2
      split at hs
      · rename_i z hh k e3 e4 e5
        injection hs with hs
        injection hs with h1 h2
        subst h1; subst h2
        obtain ⟨gt, g0, g1, g2, g3⟩ := hC
        rw [e2] at hx
        obtain ⟨A', c, hy, hlc, hmx, hd⟩ := o_rep hx e5
        obtain ⟨a1, a2, a3⟩ := at_some e5
        rw [hy]
        have hb := bounds_run (P := P) (cap := c) true hρ hl e4 g0 g1 g2 hlc
        refine ⟨_, run_sliceAt_sl (elT_und e1) e3 _ _ _ _ _ _ _ hb, .o _ _ (List.getElem?_eq_some_iff.1 a1).1 (by omega) (by omega) fun k' hk' => ?_⟩
        obtain rfl : k = k' := Option.some.inj (a1.symm.trans hk')
        refine ⟨by omega, fun _ _ => ?_⟩
        rcases hd with ⟨d1, d2, d3, d4⟩ | ⟨d, d'⟩ | ⟨q, cur, d1, d2, d3, d4⟩
        · left
          subst d1
          exact ⟨by split <;> rfl, by omega, by omega, d4⟩
        · exact .inr (.inl ⟨by omega, by omega⟩)
        · by_cases hcl : c = l.toNat
          · by_cases l0 : l.toNat = 0
            · refine .inr (.inr ⟨q, cur, d1, ?_, d3, fun ha => ?_⟩)
              · rw [if_pos hcl, d2, l0]; simp
              · have d4 := d4 ha; rw [l0]; simp; omega
            · exact .inr (.inl ⟨by omega, by have := Nat.mul_pos (Nat.pos_of_ne_zero l0) g3; omega⟩)
          · refine .inr (.inr ⟨q, cur, d1, ?_, d3, fun ha => ?_⟩)
            · rw [if_neg hcl, d2]; simp [Addr.add_lit]
            · have d4 := d4 ha
              have hz : P.cellsOf k.t = z := by rw [gt]; obtain ⟨i, hi, hs⟩ := szT_info e3; simp [Program.cellsOf, hi, hs]
              rw [hz] at d4 ⊢
              have : l.toNat * z + (c - l.toNat) * z = c * z := by rw [← Nat.add_mul]; congr 1; omega
              omega
      · cases hs
    · rename_i e _ e1 e2
      split at hs
      · rename_i z hh e3 e4
        injection hs with hs
        injection hs with h1 h2
        subst h1; subst h2
        obtain ⟨g0, g1⟩ := hC
        subst g0; subst g1
        rw [e2] at hx
        rw [rep_ns hx]
        have hb := bounds_run (P := P) (n := 0) (cap := 0) true hρ hl e4 (Int.le_refl _) (Int.le_refl _) (by simp) (Nat.le_refl _)
        exact ⟨.slice none 0 0, run_sliceAt_sl (elT_und e1) e3 none 0 0 _ _ _ _ hb, .ns⟩
      · cases hs
    · rename_i n e b g off e1 e0 e2
      split at hs
      · rename_i z hh k e3 e4 e5
        injection hs with hs
        injection hs with h1 h2
        subst h1; subst h2
        obtain ⟨g0, g1, g2, gz, gt, gn, g3⟩ := hC
        subst gz
        rw [e2] at hx
        obtain ⟨q, hq, hp⟩ := p_rep hx e5
        obtain ⟨a1, a2, a3⟩ := at_some e5
        rw [hp]
        have hb := bounds_run (P := P) (n := n) (cap := n) false hρ hl e4 g0 g1 g2 (Nat.le_refl _)
        obtain ⟨_, cur, c1, c2, c3⟩ := hH.own b q k a1 a2 hq
        refine ⟨.slice (some (if n = l.toNat then ⟨q, off, none⟩ else (⟨q, off, none⟩ : Addr).add (l.toNat * 1))) (hh.toNat - l.toNat) (n - l.toNat), by simp [Instr.sliceAt, run_underlying (arT_und e0), Instr.sureAddr, hb, run_sizeOf e3], .o _ _ (List.getElem?_eq_some_iff.1 a1).1 (by omega) (by simp only [maxLen]; omega) fun k' hk' => ?_⟩
        obtain rfl : k = k' := Option.some.inj (a1.symm.trans hk')
        refine ⟨by omega, fun _ _ => ?_⟩
        by_cases hcl : n = l.toNat
        · by_cases l0 : l.toNat = 0
          · refine .inr (.inr ⟨q, cur, hq, ?_, c1, fun ha => ?_⟩)
            · rw [if_pos hcl, l0]; rfl
            · rw [ha] at gt; cases gt
          · exact .inr (.inl ⟨by omega, by omega⟩)
        · refine .inr (.inr ⟨q, cur, hq, ?_, c1, fun ha => ?_⟩)
          · rw [if_neg hcl, Addr.add_lit, Nat.mul_one]
          · rw [ha] at gt; cases gt
      · cases hs
    · cases hs
  · cases hs
end
end Go.Proofs.E
end
/- The machine of values: its operations, one by one (7): literals, builtins. Of no function. -/
section
set_option linter.unusedVariables false
set_option linter.unusedSimpArgs false
set_option linter.unusedSectionVars false
namespace Go.Proofs.E
open Go
set_option linter.unusedVariables false
set_option linter.unusedSimpArgs false
section
variable {P : Program} {A : Amb} {w : World} {m : Nat → Option Nat} {H : Heap} {F : Nat → Prop} {ρ : Operand → V} {ρ' : Operand → Value}
/-- A new block that is only read. -/
theorem lit_yes (hH : RepH P A w m H) (t : TypeId) (n : Nat) {cs : List V} {as : Array Value} (hr : RepL P w (RO A w m H) m H cs as) :
    Out P A w m H (.sl true n cs) H (.slice (some ⟨w.heap.size, 0, none⟩) n n) (w.alloc (.cells as t)) m := by
  have hk := Keep.alloc hH (.cells as t)
  refine ⟨.sl _ _ (fun j => as.getD j undef) (Nat.le_refl _) (fun _ => rfl) (fun j v hj => ⟨_, rfl, ⟨by rw [alloc_size]; exact Nat.lt_succ_self _, fun hm => by have := Mut.lt hH hm; simp at this, fun hb => by have := hH.ban _ hb; simp at this⟩, ?_⟩) (fun j v hj => (hr.2 j v hj).keep hk) (fun e => by cases e), hH.alloc _, hk⟩
  obtain ⟨x, hx, _⟩ := hr.get hj
  have hadd : (⟨w.heap.size, 0, none⟩ : Addr).add j = ⟨w.heap.size, j, none⟩ := by rw [Addr.add_lit]; simp
  rw [hadd]
  simp only [World.cell?, heap_alloc_new w (.cells as t), Option.isSome_none, Bool.false_eq_true, if_false]
  rw [Array.getD_eq_getD_getElem?, hx]
  rfl
theorem szT_cells {e : TypeId} {z : Nat} (h : szT P e = some z) : P.cellsOf e = z := by obtain ⟨i, hi, hs⟩ := szT_info h; simp [Program.cellsOf, hi, hs]
theorem splO_length (cs vs : List V) (o : Nat) (h : o + vs.length ≤ cs.length) : (spl cs o vs).length = cs.length := by
  unfold spl
  split
  · simp
  · simp; omega
theorem fillV_length (place : Nat → Option (Nat × Nat)) : ∀ (l : List (Nat × V)) (cs cs' : List V), fillV place cs l = some cs' → cs'.length = cs.length
  | [], cs, cs', h => by simp [fillV] at h; rw [h]
  | (i, v) :: l, cs, cs', h => by
    unfold fillV at h
    split at h
    · rename_i off n vs _ _
      split at h
      · rename_i hc
        rw [fillV_length place l _ _ h, splO_length cs vs off (by omega)]
      · cases h
    · cases h
theorem lito_yes (hH : RepH P A w m H) (e : TypeId) (n z : Nat) {cs : List V} {as : Array Value} (hr : RepL P w (RO A w m H) m H cs as) (hs : as.size = n * z) (hn : n ≤ maxLen) (hz : P.cellsOf e = z) :
    Out P A w m H (.o H.length 0 0 n) (H ++ [⟨e, 0, cs, true⟩]) (.slice (some ⟨w.heap.size, 0, none⟩) n n) (w.alloc (.cells as e)) (at_ m H.length (some w.heap.size)) := by
  refine ⟨.o _ _ (by simp) (Nat.le_refl _) hn fun k' hk' => ?_, hH.new e 0 cs as (by rw [hr.1]; exact Nat.le_refl _) fun j v hj => hr.get hj, Keep.new hH _ _⟩
  rw [List.getElem?_append_right (Nat.le_refl _), Nat.sub_self] at hk'
  injection hk' with hk'
  subst hk'
  exact ⟨Nat.le_refl _, fun _ _ => .inr (.inr ⟨w.heap.size, as, at_self _ _ _, rfl, heap_alloc_new w _, fun _ => by show 0 + n * P.cellsOf e ≤ _; rw [hz, hs]; omega⟩)⟩
theorem run_lits {t e : TypeId} {n z : Nat} {x : Value} {ps : Array (Nat × Value)} {c' : Array Value} (ht : P.underlying t = some (.slice e)) (hz : szT P e = some z) (hx : (zeroValue e).run P w = .ok x w) (hn : n * z ≤ 16777216)
    (hf : Instr.fill (fun i => some (i * z, z)) ((Array.range (n * z)).map (x.cells[· % x.cells.size]!)) ps.toList = some c') : (Instr.buildSlice t n ps).run P w = .ok (.slice (some ⟨w.heap.size, 0, none⟩) n n) (w.alloc (.cells c' e)) := by
  unfold Instr.buildSlice
  simp only [Sem.run_bind, run_underlying ht, Result.andThen_ok, run_sizeOf hz]
  rw [if_neg (show ¬ n * z > 2 ^ 24 by omega)]
  by_cases h0 : n * z = 0
  · rw [if_pos h0]
    rw [h0] at hf ⊢
    have e0 : ∀ f : Nat → Value, (Array.range 0).map f = #[] := fun f => by rw [show Array.range 0 = #[] from rfl, Array.map_empty]
    rw [e0] at hf
    simp only [Sem.run_bind, Sem.run_pure, Result.andThen_ok, e0, hf]
    rfl
  · rw [if_neg h0]
    simp only [Sem.run_bind, Sem.run_pure, Result.andThen_ok, hx, hf]
    rfl
theorem lits_yes (hH : RepH P A w m H) (hρ : ∀ x, RepV P w (RO A w m H) m H (ρ x) (ρ' x)) (o : Oper) (t : TypeId) (n : Nat) (ps : Array (Nat × Operand)) (ho : o.op = .buildSlice t n ps) {C : Prop} {v : V} {H' : Heap} (h : stp P ρ o.op H = some (C, v, H')) (hC : C) : Yes P A w m H v H' ((execOp ρ' o).run P w) := by
  rw [ho] at h
  simp only [stp] at h
  obtain ⟨hl, hp⟩ := pair_list ρ ρ' hρ ps
  split at h
  · rename_i e he
    split at h
    · rename_i z zs hz hzs
      obtain ⟨cs, hc, h⟩ := Option.map_eq_some_iff.1 h
      injection h with h1 h5
      subst h1
      obtain ⟨g1, g2, g3⟩ := hC
      obtain ⟨x, hx, hr⟩ := zr_rep hzs w (RO A w m H) m H
      have hbase : RepL P w (RO A w m H) m H ((List.replicate n zs).flatten) ((Array.range (n * z)).map (x.cells[· % x.cells.size]!)) := by
        refine RepL.of (by rw [length_flat, g1]; simp) ?_
        rw [← g1]
        exact zeros_get hr (by omega) n n (Nat.le_refl _)
      obtain ⟨c', hf, hr'⟩ := fill_rep (pl' := fun i => some (i * z, z)) (fun i o h => h) _ _ _ _ _ hc hl hp hbase
      split at h5
      · injection h5 with h2 h3
        subst h2; subst h3
        refine ⟨_, _, _, .inl ?_, lito_yes hH e n z hr' (by rw [hr'.1, fillV_length _ _ _ _ hc, length_flat, g1]) (by have := Nat.le_mul_of_pos_right n g2; simp [maxLen]; omega) (szT_cells hz)⟩
        simp [execOp, ho, run_lits (elT_und he) hz hx g3 hf]
      · injection h5 with h2 h3
        subst h2; subst h3
        refine ⟨_, _, _, .inl ?_, lit_yes hH e n hr'⟩
        simp [execOp, ho, run_lits (elT_und he) hz hx g3 hf]
    · cases h
  · cases h
/-- What there is to append. -/
theorem src_rep (hH : RepH P A w m H) {z : Nat} {x : V} {x' : Value} {C : Prop} {n : Nat} {vs : List V} (h : srcV z H x = some (C, n, vs)) (hC : C) (hr : RepV P w (RO A w m H) m H x x') :
    (Builtin.lenOf x').run P w = .ok n w ∧ ∃ as : List Value, as.length = vs.length ∧ vs.length = n * z ∧ RepL P w (RO A w m H) m H vs as.toArray ∧ (∀ w' : World, (∀ a, w'.cell? a = w.cell? a) → (Builtin.firstCells z n x').run P w' = .ok as.toArray w') ∧
      (∀ w' k, k ≤ n → (∀ a, w'.cell? a = w.cell? a) → (Builtin.firstCells z k x').run P w' = .ok (as.take (k * z)).toArray w') := by
  have cells : ∀ (a : Addr) (c : Nat) (vs : List V), vs.length = n * z → (∀ (j : Nat) v, vs[j]? = some v → ∃ y, w.cell? (a.add j) = some y ∧ RepV P w (RO A w m H) m H v y) →
      ∃ as : List Value, as.length = vs.length ∧ vs.length = n * z ∧ RepL P w (RO A w m H) m H vs as.toArray ∧ (∀ w' : World, (∀ a, w'.cell? a = w.cell? a) → (Builtin.firstCells z n (.slice (some a) n c)).run P w' = .ok as.toArray w') ∧
        (∀ w' k, k ≤ n → (∀ a, w'.cell? a = w.cell? a) → (Builtin.firstCells z k (.slice (some a) n c)).run P w' = .ok (as.take (k * z)).toArray w') := by
    intro a c vs hl hcell
    obtain ⟨as, has⟩ : ∃ as : List Value, as = (List.range vs.length).map fun j => (w.cell? (a.add j)).getD undef := ⟨_, rfl⟩
    have hlen : as.length = vs.length := by rw [has]; simp
    have hget : ∀ j y, as[j]? = some y → w.cell? (a.add j) = some y := fun j y hj => by
      have hlt : j < vs.length := by rw [← hlen]; exact (List.getElem?_eq_some_iff.1 hj).1
      obtain ⟨x, hx, _⟩ := hcell j _ (List.getElem?_eq_getElem hlt)
      rw [has] at hj
      simp [hlt, hx] at hj
      rw [hx, hj]
    refine ⟨as, hlen, hl, RepL.of (by simpa using hlen) fun j v hj => ?_, fun w' hw => run_firstCells_some w' z n a n c as (by rw [hlen, hl]) fun j y hj => (hw _).trans (hget j y hj), fun w' k hk hw => ?_⟩
    · have hlt := (List.getElem?_eq_some_iff.1 hj).1
      obtain ⟨x, hx, hr⟩ := hcell j v hj
      refine ⟨x, ?_, hr⟩
      simp only [List.getElem?_toArray]
      rw [List.getElem?_eq_getElem (by rw [hlen]; exact hlt)]
      have := hget j _ (List.getElem?_eq_getElem (by rw [hlen]; exact hlt))
      rw [hx] at this
      exact this.symm
    · have hkz : k * z ≤ n * z := Nat.mul_le_mul_right _ hk
      refine run_firstCells_some w' z k a n c (as.take (k * z)) (by rw [List.length_take, hlen, hl]; omega) fun j y hj => (hw _).trans (hget j y ?_)
      rw [List.getElem?_take] at hj
      split at hj
      · exact hj
      · cases hj
  cases x with
  | ns =>
    injection h with h
    injection h with h1 h
    injection h with h2 h3
    subst h2; subst h3
    rw [rep_ns hr]
    exact ⟨rfl, [], rfl, by simp, RepL.nil, fun w' _ => run_firstCells_none w' z 0 0 0, fun w' k hk _ => by simpa using run_firstCells_none w' z k 0 0⟩
  | sl f n' cs =>
    injection h with h
    injection h with h1 h
    injection h with h2 h3
    subst h1; subst h2; subst h3
    cases hr with
    | sl A' c xs hl hf hA hxs hn =>
      refine ⟨rfl, ?_⟩
      have hlt : (cs.take (n' * z)).length = n' * z := by rw [List.length_take]; omega
      have hg : ∀ (j : Nat) v, (cs.take (n' * z))[j]? = some v → cs[j]? = some v := fun j v hj => by
        rw [List.getElem?_take] at hj
        split at hj
        · exact hj
        · cases hj
      cases A' with
      | none =>
        have n1 := hn rfl
        subst n1
        have : cs.take (0 * z) = [] := by simp
        rw [this]
        exact ⟨[], rfl, by simp, RepL.nil, fun w' _ => run_firstCells_none w' z 0 0 c, fun w' k hk _ => by simpa using run_firstCells_none w' z k 0 c⟩
      | some a =>
        refine cells a c _ hlt fun j v hj => ?_
        obtain ⟨a', e, hF, hcell⟩ := hA j v (hg j v hj)
        injection e with e
        subst e
        exact ⟨_, hcell, hxs j v (hg j v hj)⟩
  | o b g off n' =>
    obtain ⟨k, hk, h⟩ := Option.map_eq_some_iff.1 h
    injection h with h1 h
    injection h with h2 h3
    subst h1; subst h2; subst h3
    obtain ⟨A', c, rfl, hlc, hmx, hd⟩ := o_rep hr hk
    refine ⟨rfl, ?_⟩
    have hlt : ((k.cs.drop off).take (n' * z)).length = n' * z := by rw [List.length_take, List.length_drop]; omega
    rcases hd with ⟨d1, d2, d3, d4⟩ | ⟨d, d'⟩ | ⟨q, cur, d1, d2, d3, d4⟩
    · subst d1; subst d2; subst d3
      have : (k.cs.drop off).take (0 * z) = [] := by simp
      rw [this]
      exact ⟨[], rfl, by simp, RepL.nil, fun w' _ => run_firstCells_none w' z 0 0 0, fun w' k hk _ => by simpa using run_firstCells_none w' z k 0 0⟩
    · subst d
      have : (k.cs.drop off).take (0 * z) = [] := by simp
      rw [this]
      cases A' with
      | none => exact ⟨[], rfl, by simp, RepL.nil, fun w' _ => run_firstCells_none w' z 0 0 c, fun w' k hk _ => by simpa using run_firstCells_none w' z k 0 c⟩
      | some a => exact cells a c [] (by simp) fun j v hj => by simp at hj
    · subst d2
      refine cells _ c _ hlt fun j v hj => ?_
      rw [List.getElem?_take] at hj
      split at hj
      · rw [List.getElem?_drop] at hj
        obtain ⟨y, hy, hr⟩ := hH.cells hk d1 _ v hj
        rw [Nat.zero_add] at hy
        exact ⟨y, by rw [Addr.add_lit]; exact hy, hr⟩
      · cases hj
  | s x =>
    simp only [srcV] at h
    split at h
    · rename_i hz
      subst hz
      injection h with h
      injection h with h1 h
      injection h with h2 h3
      subst h2; subst h3
      rw [rep_s hr]
      refine ⟨rfl, x.data.toList.map fun c => Value.int .u8 c.toNat, by simp, by simp, RepL.of (by simp) fun j v hj => ?_, fun w' _ => ?_, fun w' k hk _ => ?_⟩
      · rw [List.getElem?_map, Option.map_eq_some_iff] at hj
        obtain ⟨c, hc, rfl⟩ := hj
        exact ⟨.int .u8 c.toNat, by simp [hc], .i _ _⟩
      · have e : x.extract 0 x.size = x := by simp
        simp only [Builtin.firstCells, e, Sem.run_pure]
        congr 1
        apply Array.ext'
        simp
      · simp only [Builtin.firstCells, Sem.run_pure, Nat.mul_one]
        congr 1
        apply Array.ext'
        simp [ByteArray.extract, ByteArray.copySlice]
    · cases h
  | _ => cases h
end
end Go.Proofs.E
end
/- The machine of values: its operations, one by one (8): append, copy. Of no function. -/
section
set_option linter.unusedVariables false
set_option linter.unusedSimpArgs false
set_option linter.unusedSectionVars false
namespace Go.Proofs.E
open Go
set_option linter.unusedVariables false
set_option linter.unusedSimpArgs false
section
variable {P : Program} {A : Amb} {w : World} {m : Nat → Option Nat} {H : Heap} {F : Nat → Prop} {ρ : Operand → V} {ρ' : Operand → Value}
theorem src_und {u : TypeId} (h : srcT P u = true) : ∃ d, P.underlying u = some d ∧ ((∃ e, d = .slice e) ∨ d = .string) := by
  unfold srcT at h
  split at h
  · rename_i hd; exact ⟨_, hd, .inl ⟨_, rfl⟩⟩
  · rename_i hd; exact ⟨_, hd, .inr rfl⟩
  · cases h
theorem run_app_room {t u ty e : TypeId} {i : TypeInfo} (ht : P.underlying t = some (.slice e)) (hu : srcT P u = true) (hi : P.info? e = some i) (a : Addr) (sLen sCap n : Nat) (x : Value) (news : List Value) {w' : World}
    (h1 : (Builtin.lenOf x).run P w = .ok n w) (h2 : (Builtin.firstCells i.size n x).run P w = .ok news.toArray w) (hc : sLen + n ≤ sCap) (hst : (storeCells (a.add (sLen * i.size)) news).run P w = .ok () w') :
    (Builtin.append_ #[t, u] ty #[.slice (some a) sLen sCap, x]).run P w = .ok (.slice (some a) (sLen + n) sCap) w' := by
  obtain ⟨d, hd, hm⟩ := src_und hu
  rcases hm with ⟨e', rfl⟩ | rfl <;> simp [Builtin.append_, run_underlying ht, run_underlying hd, sizeOf, typeInfo, hi, h1, hc, h2, hst]
theorem run_app_none {t u ty e : TypeId} {i : TypeInfo} (ht : P.underlying t = some (.slice e)) (hu : srcT P u = true) (hi : P.info? e = some i) (x : Value) (news : List Value)
    (h1 : (Builtin.lenOf x).run P w = .ok 0 w) (h2 : (Builtin.firstCells i.size 0 x).run P w = .ok news.toArray w) :
    (Builtin.append_ #[t, u] ty #[.slice none 0 0, x]).run P w = .ok (.slice none 0 0) w := by
  obtain ⟨d, hd, hm⟩ := src_und hu
  rcases hm with ⟨e', rfl⟩ | rfl <;> simp [Builtin.append_, run_underlying ht, run_underlying hd, sizeOf, typeInfo, hi, h1, h2]
theorem run_app_grow {t u ty e : TypeId} {i : TypeInfo} {z : Value} (ht : P.underlying t = some (.slice e)) (hu : srcT P u = true) (hi : P.info? e = some i) (hz : i.zero = some z) (b : Option Addr) (sLen sCap n : Nat) (x : Value) (olds news : List Value)
    (h1 : (Builtin.lenOf x).run P w = .ok n w) (h2 : (Builtin.firstCells i.size n x).run P w.drew = .ok news.toArray w.drew) (h3 : (Builtin.firstCells i.size sLen (.slice b sLen sCap)).run P w.drew = .ok olds.toArray w.drew)
    (hg : sCap < sLen + n) (h63 : ((sLen + n : Nat) : Int) ≤ 9223372036854775807) (hfit : Builtin.nextslicecap (sLen + n) sCap * i.bytes ≤ 281474976710656) :
    (Builtin.append_ #[t, u] ty #[.slice b sLen sCap, x]).run P w = .ok (.slice (some ⟨w.heap.size, 0, none⟩) (sLen + n) (grownCap w (sLen + n) sCap e))
      (w.drew.alloc (.cells (olds ++ news ++ (Builtin.zeroCells z.cells (grownCap w (sLen + n) sCap e - (sLen + n))).toList).toArray e)) := by
  obtain ⟨d, hd, hm⟩ := src_und hu
  have hn : ¬ (sLen + n ≤ sCap) := by omega
  have h63' : ¬ (9223372036854775807 < ((sLen : Int) + (n : Int))) := by omega
  have h48' : ¬ (281474976710656 < Builtin.nextslicecap (sLen + n) sCap * i.bytes) := by omega
  rcases hm with ⟨e', rfl⟩ | rfl <;> (simp [Builtin.append_, run_underlying ht, run_underlying hd, sizeOf, typeInfo, zeroValue, hi, hz, h1, hn, h63', h48', Question.forced, h2, h3, newRow, grownCap]; congr 2; apply Array.ext'; simp)
/-- A block of which nothing lies in memory. -/
theorem Keep.virt (hH : RepH P A w m H) (k0 : Blk) : Keep w m H w (at_ m H.length none) (H ++ [k0]) := by
  refine ⟨rfl, rfl, ⟨rfl, Nat.le_refl _⟩, Nat.le_refl _, fun q hq _ => rfl, ?_, by simp, fun b k k' h h' => ?_⟩
  · rintro q ⟨b, k, h1, h2, h3⟩
    by_cases e : b = H.length
    · subst e
      rw [at_self] at h3
      cases h3
    · rw [at_ne m _ e] at h3
      refine .inl ⟨b, k, ?_, h2, h3⟩
      have hlt : b < H.length := by have := (List.getElem?_eq_some_iff.1 h1).1; simp at this; omega
      rwa [List.getElem?_append_left hlt] at h1
  · have hlt := (List.getElem?_eq_some_iff.1 h).1
    rw [List.getElem?_append_left hlt] at h'
    obtain rfl : k = k' := Option.some.inj (h.symm.trans h')
    exact ⟨Nat.le_refl _, fun _ hl => ⟨hl, rfl, at_ne m _ (by omega), fun q cur hm hc => ⟨cur, hc, rfl⟩⟩⟩
theorem get_snoc_ne {k0 : Blk} {b : Nat} (hb : b ≠ H.length) : (H ++ [k0])[b]? = H[b]? := by
  rcases Nat.lt_or_ge b H.length with h | h
  · exact List.getElem?_append_left h
  · rw [List.getElem?_eq_none (l := H) (by omega), List.getElem?_eq_none (by rw [List.length_append, List.length_singleton]; omega)]
theorem get_snoc (k0 : Blk) : (H ++ [k0])[H.length]? = some k0 := by rw [List.getElem?_append_right (Nat.le_refl _), Nat.sub_self]; rfl
theorem RepH.virt (hH : RepH P A w m H) (t : TypeId) (g : Nat) : RepH P A w (at_ m H.length none) (H ++ [⟨t, g, [], true⟩]) :=
  hH.put (b0 := H.length) (k0 := ⟨t, g, [], true⟩) (Keep.virt hH _) (fun b hb => get_snoc_ne hb) (get_snoc _) (fun b hb => at_ne m _ hb) (fun _ q hq => by rw [at_self] at hq; cases hq) (fun _ _ => rfl) (fun b k q _ hb hl hm => rfl)
theorem RepL.zeros {l : List V} {as : Array Value} (h : RepL P w F m H l as) (zs : List Value) : ∀ (j : Nat) v, l[j]? = some v → ∃ x, (as.toList ++ zs).toArray[j]? = some x ∧ RepV P w F m H v x := fun j v hj => by
  obtain ⟨x, hx, hr⟩ := h.get hj
  refine ⟨x, ?_, hr⟩
  have := (Array.getElem?_eq_some_iff.1 hx).1
  simp only [List.getElem?_toArray]
  rw [List.getElem?_append_left (by simpa using this), Array.getElem?_toList]
  exact hx
theorem cellsOf_of {e : TypeId} {i : TypeInfo} (hi : P.info? e = some i) : P.cellsOf e = i.size := by simp [Program.cellsOf, hi]
/-- What there is behind a growth: a new row of the call's own. -/
theorem grown_fits (w : World) (need old : Nat) (e : TypeId) (z : Value) (l : List Value) (sz : Nat) (hz : z.cells.size = sz) (hl : l.length = need * sz) (hn : need ≤ 140737488355328) :
    need ≤ grownCap w need old e ∧ grownCap w need old e ≤ maxLen ∧ 0 + grownCap w need old e * sz ≤ (l ++ (Builtin.zeroCells z.cells (grownCap w need old e - need)).toList).toArray.size := by
  have hge := grownCap_ge w need old e
  refine ⟨hge, grownCap_le_maxLen w need old e (by simp only [maxLen]; omega), ?_⟩
  simp only [List.size_toArray, List.length_append, Array.length_toList, size_zeroCells, hz, hl, ← Nat.add_mul]
  rw [Nat.zero_add]
  exact Nat.mul_le_mul_right _ (by omega)
end
end Go.Proofs.E
end
/- The machine of values: its operations, one by one (9): append, copy, len, min, max. Of no function. -/
section
set_option linter.unusedVariables false
set_option linter.unusedSimpArgs false
set_option linter.unusedSectionVars false
namespace Go.Proofs.E
open Go
set_option linter.unusedVariables false
set_option linter.unusedSimpArgs false
section
variable {P : Program} {A : Amb} {w : World} {m : Nat → Option Nat} {H : Heap} {F : Nat → Prop} {ρ : Operand → V} {ρ' : Operand → Value}
structure ElT (P : Program) (e : TypeId) (z y : Nat) (zs : List V) (i : TypeInfo) (x : Value) : Prop where
  info : P.info? e = some i
  size : i.size = z
  bytes : i.bytes = y
  zero : i.zero = some x
  cells : x.cells.size = zs.length
theorem elT_of {e : TypeId} {z y : Nat} {zs : List V} (f1 : szT P e = some z) (f2 : byT P e = some y) (f3 : zrT P e = some zs) : ∃ i x, ElT P e z y zs i x := by
  obtain ⟨i, hi, hz⟩ := Option.bind_eq_some_iff.1 f3
  obtain ⟨x, hx, rfl⟩ := Option.map_eq_some_iff.1 hz
  obtain ⟨i', hi', hs⟩ := szT_info f1
  rw [hi] at hi'
  injection hi' with hi'
  subst hi'
  exact ⟨i, x, hi, hs, by simpa [byT, hi] using f2, hx, by simp⟩
/-- A row that grew into new memory, in place of block b, or as a new one. -/
theorem moved_yes (hH : RepH P A w m H) {b g : Nat} {k : Blk} (hk : H.at b g = some k) (e : TypeId) (cs : List V) (cur : Array Value) (n c z : Nat) (hc : ∀ (j : Nat) (v : V), cs[j]? = some v → ∃ x : Value, cur[j]? = some x ∧ RepV P w (RO A w m H) m H v x) (hl : cs.length ≤ cur.size)
    (h1 : n ≤ c) (h2 : c ≤ maxLen) (hz : P.cellsOf e = z) (h3 : 0 + c * z ≤ cur.size) :
    Out P A w m H (.o b (g + 1) 0 n) (H.set b ⟨e, g + 1, cs, true⟩) (.slice (some ⟨w.heap.size, 0, none⟩) n c) (w.drew.alloc (.cells cur e)) (at_ m b (some w.heap.size)) := by
  obtain ⟨a1, a2, a3⟩ := at_some hk
  have hH' := hH.drew
  have hc' : ∀ (j : Nat) (v : V), cs[j]? = some v → ∃ x : Value, cur[j]? = some x ∧ RepV P w.drew (RO A w.drew m H) m H v x := fun j v hj => let ⟨x, hx, hr⟩ := hc j v hj; ⟨x, hx, hr.keep (Keep.drew w m H)⟩
  have hlt := (List.getElem?_eq_some_iff.1 a1).1
  refine ⟨.o _ _ (by simpa using hlt) h1 h2 fun k' hk' => ?_, hH'.moved (w := w.drew) e (g + 1) cs cur a1 (by omega) hl hc', (Keep.drew w m H).trans (Keep.moved hH' _ a1 (by show k.g < g + 1; omega))⟩
  rw [List.getElem?_set_self hlt] at hk'
  injection hk' with hk'
  subst hk'
  exact ⟨Nat.le_refl _, fun _ _ => .inr (.inr ⟨w.heap.size, cur, at_self _ _ _, rfl, heap_alloc_new w.drew _, fun _ => by show 0 + c * P.cellsOf e ≤ _; rw [hz]; exact h3⟩)⟩
theorem fresh_yes (hH : RepH P A w m H) (e : TypeId) (cs : List V) (cur : Array Value) (n c z : Nat) (hc : ∀ (j : Nat) (v : V), cs[j]? = some v → ∃ x : Value, cur[j]? = some x ∧ RepV P w (RO A w m H) m H v x) (hl : cs.length ≤ cur.size)
    (h1 : n ≤ c) (h2 : c ≤ maxLen) (hz : P.cellsOf e = z) (h3 : 0 + c * z ≤ cur.size) :
    Out P A w m H (.o H.length 0 0 n) (H ++ [⟨e, 0, cs, true⟩]) (.slice (some ⟨w.heap.size, 0, none⟩) n c) (w.drew.alloc (.cells cur e)) (at_ m H.length (some w.heap.size)) := by
  have hH' := hH.drew
  have hc' : ∀ (j : Nat) (v : V), cs[j]? = some v → ∃ x : Value, cur[j]? = some x ∧ RepV P w.drew (RO A w.drew m H) m H v x := fun j v hj => let ⟨x, hx, hr⟩ := hc j v hj; ⟨x, hx, hr.keep (Keep.drew w m H)⟩
  refine ⟨.o _ _ (by simp) h1 h2 fun k' hk' => ?_, hH'.new (w := w.drew) e 0 cs cur hl hc', (Keep.drew w m H).trans (Keep.new hH' _ _)⟩
  rw [get_snoc] at hk'
  injection hk' with hk'
  subst hk'
  exact ⟨Nat.le_refl _, fun _ _ => .inr (.inr ⟨w.heap.size, cur, at_self _ _ _, rfl, heap_alloc_new w.drew _, fun _ => by show 0 + c * P.cellsOf e ≤ _; rw [hz]; exact h3⟩)⟩
theorem app_yes (hH : RepH P A w m H) (hρ : ∀ x, RepV P w (RO A w m H) m H (ρ x) (ρ' x)) (o : Oper) (s x : Operand) (t u : TypeId) (ho : o.op = .call ⟨.builtin .append, #[s, x], #[t, u]⟩) {C : Prop} {v : V} {H' : Heap} (h : stp P ρ o.op H = some (C, v, H')) (hC : C) : Yes P A w m H v H' ((execOp ρ' o).run P w) := by
  rw [ho] at h
  simp only [stp, biV, apV, List.map_cons, List.map_nil] at h
  suffices hg : ∃ u' w' m', (Builtin.append_ #[t, u] o.type #[ρ' s, ρ' x]).run P w = .ok u' w' ∧ Out P A w m H v H' u' w' m' by
    obtain ⟨u', w', m', hu, hr⟩ := hg
    exact ⟨m', w', u', .inl (by simp [execOp, ho, resolve, invoke, builtin, hu]), hr⟩
  split at h
  · rename_i e e1 e2
    split at h
    · rename_i z y zs f1 f2 f3
      obtain ⟨i, zv, hE⟩ := elT_of f1 f2 f3
      have ht := elT_und e1
      have hco : P.cellsOf e = z := by rw [cellsOf_of hE.info, hE.size]
      split at h
      · rename_i c n vs hsrc
        have hs := hρ s
        split at h
        · rename_i b g len es
          rw [es] at hs
          obtain ⟨k, hk, h⟩ := Option.map_eq_some_iff.1 h
          injection h with h1 h
          injection h with h2 h3
          subst h1; subst h2; subst h3
          obtain ⟨c1, c2, c4, c5, ⟨c6, car⟩, c7, c8, c9⟩ := hC
          obtain ⟨a1, a2, a3⟩ := at_some hk
          obtain ⟨l1, as, l2, l3, l4, l5, l6⟩ := src_rep hH hsrc c1 (hρ x)
          have hob := hs
          obtain ⟨A', cap, hy, hlc, hmx, hd⟩ := o_rep hs hk
          rw [hy] at hob ⊢
          have hself := src_rep hH (z := z) (x := .o b g 0 len) (x' := .slice A' len cap) (C := 0 + len * z ≤ k.cs.length) (n := len) (vs := (k.cs.drop 0).take (len * z)) (by simp [srcV, hk]) (by omega) hob
          obtain ⟨_, os, o2, o3, o4, o5, _⟩ := hself
          have hos : (k.cs.drop 0).take (len * z) = k.cs := by rw [List.drop_zero, List.take_of_length_le (by omega)]
          rw [hos] at o2 o3 o4
          by_cases hroom : len + n ≤ cap
          · rcases hd with ⟨d1, d2, d3, d4⟩ | ⟨d, d'⟩ | ⟨q, cur, d1, d2, d3, d4⟩
            · subst d1; subst d2; subst d3
              have hn0 : n = 0 := by omega
              subst hn0
              have hvs : vs = [] := List.eq_nil_of_length_eq_zero (by rw [l3]; simp)
              subst hvs
              have hks : k.cs = [] := List.eq_nil_of_length_eq_zero (by rw [c7]; simp)
              have hf := l5 w (fun _ => rfl)
              rw [← hE.size] at hf
              refine ⟨_, w, m, run_app_none ht e2 hE.info (ρ' x) as l1 hf, .o _ _ (by simpa using (List.getElem?_eq_some_iff.1 a1).1) (by simp) (by simp [maxLen]) fun k' hk' => ?_, ?_, Keep.older hH a1 a2 (by show k.g ≤ g + 1; omega) (by exact c6.symm)⟩
              · rw [List.getElem?_set_self (List.getElem?_eq_some_iff.1 a1).1] at hk'
                injection hk' with hk'
                subst hk'
                exact ⟨Nat.le_refl _, fun _ _ => .inl ⟨rfl, rfl, rfl, d4⟩⟩
              · exact hH.put (b0 := b) (k0 := ⟨e, g + 1, k.cs ++ [], true⟩) (Keep.older hH a1 a2 (by show k.g ≤ g + 1; omega) (by exact c6.symm)) (fun b2 h2 => List.getElem?_set_ne (Ne.symm h2)) (List.getElem?_set_self (List.getElem?_eq_some_iff.1 a1).1) (fun _ _ => rfl) (fun _ q hq => by rw [d4] at hq; cases hq) (fun _ _ => by rw [hks]; rfl) (fun b2 k2 q _ _ _ _ => rfl)
            · omega
            · subst d2
              have hzk : P.cellsOf k.t = z := by rw [c6]; exact hco
              have d4 := d4 (by rw [c6]; exact car)
              rw [hzk] at d4
              have hfit : len * z + as.length ≤ cur.size := by
                rw [l2, l3]
                have : len * z + n * z ≤ cap * z := by rw [← Nat.add_mul]; exact Nat.mul_le_mul_right _ hroom
                omega
              have hst := run_storeCells_at P q (len * z) k.t as 0 cur w d3 (by simpa using hfit) (l4.ones c2)
              simp only [Nat.add_zero] at hst
              have hst' : (storeCells ((⟨q, 0, none⟩ : Addr).add (len * i.size)) as).run P w = .ok () (w.setRow q (cur.toList.take (len * z) ++ as ++ cur.toList.drop (len * z + as.length)).toArray) := by
                rw [Addr.add_lit, hE.size, Nat.zero_add]; exact hst
              have hf := l5 w (fun _ => rfl)
              rw [← hE.size] at hf
              have hsz : (cur.toList.take (len * z) ++ as ++ cur.toList.drop (len * z + as.length)).toArray.size = cur.size := by simp; omega
              obtain ⟨_, cur2, g1, g2, g3⟩ := hH.own b q k a1 a2 d1
              obtain rfl : cur2 = cur := by rw [d3] at g1; injection g1 with g1; injection g1 with g1; exact g1.symm
              have hK : Keep w m H (w.setRow q (cur2.toList.take (len * z) ++ as ++ cur2.toList.drop (len * z + as.length)).toArray) m (H.set b ⟨e, g + 1, k.cs ++ vs, true⟩) := Keep.row hH a1 a2 d1 d3 hsz (by show k.g ≤ g + 1; omega) (by exact c6.symm)
              refine ⟨_, _, m, run_app_room ht e2 hE.info _ len cap n (ρ' x) as l1 hf hroom hst', .o _ _ (by simpa using (List.getElem?_eq_some_iff.1 a1).1) hroom hmx fun k' hk' => ?_, ?_, hK⟩
              · rw [List.getElem?_set_self (List.getElem?_eq_some_iff.1 a1).1] at hk'
                injection hk' with hk'
                subst hk'
                refine ⟨Nat.le_refl _, fun _ _ => .inr (.inr ⟨q, (cur2.toList.take (len * z) ++ as ++ cur2.toList.drop (len * z + as.length)).toArray, d1, rfl, ?_, fun _ => ?_⟩)⟩
                · rw [setRow_heap w q cur2 _ _ _ d3, c6]
                · show 0 + cap * P.cellsOf e ≤ _
                  rw [hsz, hco]; exact d4
              · refine hH.row a1 a2 d1 d3 hsz (by show k.g ≤ g + 1; omega) (by exact c6.symm) ?_ fun j v hj => ?_
                · show (k.cs ++ vs).length ≤ _
                  rw [hsz, List.length_append, c7, ← l2]; omega
                · replace hj : (k.cs ++ vs)[j]? = some v := hj
                  simp only [List.getElem?_toArray]
                  rw [get_splice _ _ _ _ (by simpa using hfit)]
                  rcases Nat.lt_or_ge j k.cs.length with hlt | hge
                  · rw [List.getElem?_append_left hlt] at hj
                    rw [if_neg (by rw [c7] at hlt; omega), Array.getElem?_toList]
                    exact g3 j v hj
                  · rw [List.getElem?_append_right hge] at hj
                    have hjl := (List.getElem?_eq_some_iff.1 hj).1
                    rw [c7] at hj hjl hge
                    rw [if_pos (by omega)]
                    obtain ⟨y', hy', hr⟩ := l4.get hj
                    exact ⟨y', by simpa using hy', hr⟩
          · have hf := l5 w.drew (fun _ => rfl)
            have hfo := o5 w.drew (fun _ => rfl)
            rw [← hE.size] at hf hfo
            have hgr := run_app_grow (ty := o.type) ht e2 hE.info hE.zero A' len cap n (ρ' x) os as l1 hf hfo (by omega) (by omega) (growslice_fits (by omega) (by rw [hE.bytes]; exact c8))
            obtain ⟨t1, t2, t3⟩ := grown_fits w (len + n) cap e zv (os ++ as) z (by rw [hE.cells, c4]) (by rw [List.length_append, o2, l2, c7, l3, Nat.add_mul]) c9
            refine ⟨_, _, _, hgr, moved_yes hH hk e _ _ _ _ z ?_ ?_ t1 t2 hco t3⟩
            · have hL := RepL.append (by rw [c7] at o3; exact o4) l4
              intro j v hj
              obtain ⟨y', hy', hr⟩ := hL.zeros (Builtin.zeroCells zv.cells (grownCap w (len + n) cap e - (len + n))).toList j v hj
              exact ⟨y', by simpa using hy', hr⟩
            · rw [List.length_append, ← o2, ← l2]; simp <;> omega
        · rename_i es
          rw [es] at hs
          injection h with h
          injection h with h1 h
          injection h with h2 h3
          subst h1; subst h2; subst h3
          obtain ⟨c1, c2, c4, c5, c8, c9⟩ := hC
          obtain ⟨l1, as, l2, l3, l4, l5, l6⟩ := src_rep hH hsrc c1 (hρ x)
          rw [rep_ns hs]
          by_cases hn0 : n = 0
          · subst hn0
            have hvs : vs = [] := List.eq_nil_of_length_eq_zero (by rw [l3]; simp)
            subst hvs
            have hf := l5 w (fun _ => rfl)
            rw [← hE.size] at hf
            refine ⟨_, w, _, run_app_none ht e2 hE.info (ρ' x) as l1 hf, .o _ _ (by simp) (by simp) (by simp [maxLen]) fun k' hk' => ?_, hH.virt e 0, Keep.virt hH _⟩
            rw [get_snoc] at hk'
            injection hk' with hk'
            subst hk'
            exact ⟨Nat.le_refl _, fun _ _ => .inl ⟨rfl, rfl, rfl, at_self _ _ _⟩⟩
          · have hf := l5 w.drew (fun _ => rfl)
            rw [← hE.size] at hf
            have hgr := run_app_grow (ty := o.type) ht e2 hE.info hE.zero none 0 0 n (ρ' x) [] as l1 hf (run_firstCells_none w.drew _ _ _ _) (by omega) (by omega) (growslice_fits (by omega) (by rw [hE.bytes, Nat.zero_add]; exact c8))
            rw [Nat.zero_add] at hgr
            obtain ⟨t1, t2, t3⟩ := grown_fits w n 0 e zv as z (by rw [hE.cells, c4]) (by rw [l2, l3]) c9
            refine ⟨_, _, _, hgr, fresh_yes hH e _ _ _ _ z ?_ ?_ t1 t2 hco (by simpa using t3)⟩
            · intro j v hj
              obtain ⟨y', hy', hr⟩ := l4.zeros (Builtin.zeroCells zv.cells (grownCap w n 0 e - n)).toList j v hj
              exact ⟨y', by simpa using hy', hr⟩
            · rw [← l2]; simp
        · rename_i len cs es
          rw [es] at hs
          split at h
          · rename_i hn0
            subst hn0
            injection h with h
            injection h with h1 h
            injection h with h2 h3
            subst h1; subst h2; subst h3
            obtain ⟨l1, as, l2, l3, l4, l5, l6⟩ := src_rep hH hsrc hC (hρ x)
            have hvs : vs = [] := List.eq_nil_of_length_eq_zero (by rw [l3]; simp)
            subst hvs
            have has : as = [] := List.eq_nil_of_length_eq_zero (by rw [l2]; rfl)
            subst has
            have hf := l5 w (fun _ => rfl)
            rw [← hE.size] at hf
            have hob := hs
            generalize hy : ρ' s = y' at hs hob
            cases hs with
            | sl A' cap xs hlc hfu hA hxs hn =>
              obtain rfl : cap = _ := hfu rfl
              cases A' with
              | none =>
                have hc0 := hn rfl
                subst hc0
                exact ⟨_, _, _, run_app_none ht e2 hE.info (ρ' x) [] l1 hf, hob, hH, Keep.refl _ _ _⟩
              | some a => exact ⟨_, _, _, run_app_room ht e2 hE.info a _ _ 0 (ρ' x) [] l1 hf (Nat.le_refl _) (by simp [storeCells]), hob, hH, Keep.refl _ _ _⟩
          injection h with h
          injection h with h1 h
          injection h with h2 h3
          subst h1; subst h2; subst h3
          obtain ⟨c1, c2, c4, c5, c7, c10, c11, c8, c9⟩ := hC
          obtain ⟨l1, as, l2, l3, l4, l5, l6⟩ := src_rep hH hsrc c1 (hρ x)
          have hob := hs
          generalize hy : ρ' s = y' at hs hob
          cases hs with
          | sl A' cap xs hlc hfu hA hxs hn =>
            obtain rfl : cap = len := hfu rfl
            obtain ⟨_, os, o2, o3, o4, o5, _⟩ := src_rep hH (z := z) (x := .sl true cap cs) (x' := .slice A' cap cap) (C := cap * z ≤ cs.length) (n := cap) (vs := cs.take (cap * z)) rfl (by omega) hob
            rw [List.take_of_length_le (by omega)] at o2 o3 o4
            have hf := l5 w.drew (fun _ => rfl)
            have hfo := o5 w.drew (fun _ => rfl)
            rw [← hE.size] at hf hfo
            have hgr := run_app_grow (ty := o.type) ht e2 hE.info hE.zero A' cap cap n (ρ' x) os as l1 hf hfo (by omega) (by omega) (growslice_fits (by omega) (by rw [hE.bytes]; exact c8))
            obtain ⟨t1, t2, t3⟩ := grown_fits w (cap + n) cap e zv (os ++ as) z (by rw [hE.cells, c4]) (by rw [List.length_append, o2, l2, c7, l3, Nat.add_mul]) c9
            refine ⟨_, _, _, hgr, fresh_yes hH e _ _ _ _ z ?_ ?_ t1 t2 hco t3⟩
            · have hL := RepL.append o4 l4
              intro j v hj
              obtain ⟨y', hy', hr⟩ := hL.zeros (Builtin.zeroCells zv.cells (grownCap w (cap + n) cap e - (cap + n))).toList j v hj
              exact ⟨y', by simpa using hy', hr⟩
            · rw [List.length_append, ← o2, ← l2]; simp <;> omega
        · cases h
      · cases h
    · cases h
  · cases h
end
end Go.Proofs.E
end
/- The machine of values: its operations, together. Of no function. -/
section
set_option linter.unusedVariables false
set_option linter.unusedSimpArgs false
set_option linter.unusedSectionVars false
namespace Go.Proofs.E
open Go
set_option linter.unusedVariables false
set_option linter.unusedSimpArgs false
section
variable {P : Program} {A : Amb} {w : World} {m : Nat → Option Nat} {H : Heap} {F : Nat → Prop} {ρ : Operand → V} {ρ' : Operand → Value}
theorem spl_nil (cs : List V) (off : Nat) : spl cs off [] = cs := by simp [spl]
theorem set_same {b : Nat} {k : Blk} (h : H[b]? = some k) : H.set b k = H := by
  have hlt := (List.getElem?_eq_some_iff.1 h).1
  apply List.ext_getElem?
  intro j
  rw [List.getElem?_set]
  split
  · rename_i e
    subst e
    rw [h]
  · rfl
theorem run_copy {t e ty : TypeId} {ts : Array TypeId} {z : Nat} (ht0 : ts[0]? = some t) (ht : P.underlying t = some (.slice e)) (hz : szT P e = some z) (A' : Option Addr) (dl dc : Nat) (x : Value) (n : Nat) (as : List Value) {w' : World}
    (h1 : (Builtin.lenOf x).run P w = .ok n w) (h2 : (Builtin.firstCells z (min n dl) x).run P w = .ok as.toArray w) (h3 : match A' with | some a => (storeCells a as).run P w = .ok () w' | none => w' = w) :
    (Builtin.copy_ ts ty #[.slice A' dl dc, x]).run P w = .ok (.int .i64 ((min n dl : Nat) : Int)) w' := by
  have hm : Nat.min n dl = min n dl := rfl
  cases A' with
  | none =>
    simp only at h3
    subst h3
    simp [Builtin.copy_, ht0, run_underlying ht, h1, hm, run_sizeOf hz, h2, goInt]
  | some a =>
    simp only at h3
    simp [Builtin.copy_, ht0, run_underlying ht, h1, hm, run_sizeOf hz, h2, h3, goInt]
theorem copy_yes (hH : RepH P A w m H) (hρ : ∀ x, RepV P w (RO A w m H) m H (ρ x) (ρ' x)) (o : Oper) (d x : Operand) (t : TypeId) (ts : Array TypeId) (ht : ∃ r, ts.toList = t :: r) (ho : o.op = .call ⟨.builtin .copy, #[d, x], ts⟩) {C : Prop} {v : V} {H' : Heap} (h : stp P ρ o.op H = some (C, v, H')) (hC : C) : Yes P A w m H v H' ((execOp ρ' o).run P w) := by
  obtain ⟨r, hr0⟩ := ht
  have ht0 : ts[0]? = some t := by rw [← Array.getElem?_toList, hr0]; rfl
  rw [ho] at h
  simp only [stp, hr0, biV, List.map_cons, List.map_nil] at h
  suffices hg : ∃ u' w' m', (Builtin.copy_ ts o.type #[ρ' d, ρ' x]).run P w = .ok u' w' ∧ Out P A w m H v H' u' w' m' by
    obtain ⟨u', w', m', hu, hr⟩ := hg
    exact ⟨m', w', u', .inl (by simp [execOp, ho, resolve, invoke, builtin, hu]), hr⟩
  have hd := hρ d
  unfold cpV at h
  split at h
  · rename_i b g off n e e1 he
    rw [e1] at hd
    · split at h
      · rename_i z hz
        split at h
        · rename_i C' mm vs k hsrc hk
          injection h with h
          injection h with h1 h
          injection h with h2 h3
          subst h1; subst h2; subst h3
          obtain ⟨c1, c2, c3⟩ := hC
          obtain ⟨l1, as, l2, l3, l4, l5, l6⟩ := src_rep hH hsrc c1 (hρ x)
          obtain ⟨a1, a2, a3⟩ := at_some hk
          obtain ⟨A', cap, hy, hlc, hmx, hdd⟩ := o_rep hd hk
          have hf := l6 w (min mm n) (Nat.min_le_left _ _) (fun _ => rfl)
          rw [hy]
          have hpre : (vs.take (min mm n * z)).length = min mm n * z := by
            rw [List.length_take, l3]
            have : min mm n * z ≤ mm * z := Nat.mul_le_mul_right _ (Nat.min_le_left _ _)
            omega
          have zero : min mm n * z = 0 → (∀ w', (match A' with | some a => (storeCells a (as.take (min mm n * z))).run P w = .ok () w' | none => w' = w) → w' = w → ∃ u' w' m', (Builtin.copy_ ts o.type #[.slice A' n cap, ρ' x]).run P w = .ok u' w' ∧ Out P A w m H (.i .i64 ((min mm n : Nat) : Int)) (H.set b { k with cs := spl k.cs off (vs.take (min mm n * z)) }) u' w' m') := by
            intro h0 w' hst hw
            subst hw
            refine ⟨_, _, m, run_copy ht0 (elT_und he) hz A' n cap (ρ' x) mm _ l1 hf hst, ?_⟩
            have : H.set b { k with cs := spl k.cs off (vs.take (min mm n * z)) } = H := by
              rw [h0, List.take_zero, spl_nil]; exact set_same a1
            rw [this]
            exact ⟨.i _ _, hH, Keep.refl _ _ _⟩
          by_cases h0 : min mm n * z = 0
          · refine zero h0 w ?_ rfl
            rw [h0]
            cases A' with
            | none => rfl
            | some a => rfl
          · have hn0 : n ≠ 0 := by intro e; subst e; simp at h0
            rcases hdd with ⟨d1, d2, d3, d4⟩ | ⟨d, d'⟩ | ⟨q, cur, d1, d2, d3, d4⟩
            · omega
            · omega
            · subst d2
              have hmn : min mm n * z ≤ n * z := Nat.mul_le_mul_right _ (Nat.min_le_right _ _)
              obtain ⟨w', hst, hH', hK⟩ := write_yes (off := off) (vs := vs.take (min mm n * z)) (as := as.take (min mm n * z)) hH hk d1 (by rw [List.length_take, List.length_take, l2]) (fun j v hj => by
                obtain ⟨y, g1, g2⟩ := (l4.take (min mm n * z)).get hj
                exact ⟨y, by simpa using g1, g2⟩) (fun y hy => l4.ones c2 y (by simpa using List.mem_of_mem_take hy)) (by omega)
              exact ⟨_, w', m, run_copy ht0 (elT_und he) hz _ n cap (ρ' x) mm _ l1 hf hst, .i _ _, hH', hK⟩
        · cases h
      · cases h
  · cases h
theorem len_yes (hH : RepH P A w m H) (hρ : ∀ x, RepV P w (RO A w m H) m H (ρ x) (ρ' x)) (o : Oper) (x : Operand) (t : TypeId) (ho : o.op = .call ⟨.builtin .len, #[x], #[t]⟩) {C : Prop} {v : V} {H' : Heap} (h : stp P ρ o.op H = some (C, v, H')) (hC : C) : Yes P A w m H v H' ((execOp ρ' o).run P w) := by
  rw [ho] at h
  simp only [stp, biV, List.map_cons, List.map_nil] at h
  obtain ⟨⟨C', n⟩, hl, h⟩ := Option.map_eq_some_iff.1 h
  injection h with h1 h
  injection h with h2 h3
  subst h1; subst h2; subst h3
  suffices hg : (Builtin.len_ #[t] o.type #[ρ' x]).run P w = .ok (.int .i64 n) w by
    exact Yes.pure hH (x := .int .i64 n) (by simp [execOp, ho, resolve, invoke, builtin, hg]) (.i _ _)
  have hx := hρ x
  generalize ρ' x = y at hx ⊢
  generalize ρ x = xv at hx hl
  cases xv with
  | sl f n' cs =>
    obtain ⟨e, he, hl⟩ := Option.map_eq_some_iff.1 hl
    injection hl with e1 e2
    subst e2
    cases hx with
    | sl => simp [Builtin.len_, run_underlying (elT_und he), goInt]
  | o b g off n' =>
    obtain ⟨e, he, hl⟩ := Option.map_eq_some_iff.1 hl
    injection hl with e1 e2
    subst e2
    cases hx with
    | o => simp [Builtin.len_, run_underlying (elT_und he), goInt]
  | ns =>
    obtain ⟨e, he, hl⟩ := Option.map_eq_some_iff.1 hl
    injection hl with e1 e2
    subst e2
    cases hx with
    | ns => simp [Builtin.len_, run_underlying (elT_und he), goInt]
  | s z =>
    injection hl with hl
    injection hl with e1 e2
    subst e1; subst e2
    cases hx with
    | s => simp [Builtin.len_, run_underlying (strT_und hC), goInt]
  | agg cs =>
    obtain ⟨⟨k, e⟩, he, hl⟩ := Option.map_eq_some_iff.1 hl
    injection hl with e1 e2
    subst e2
    cases hx with
    | agg => simp [Builtin.len_, run_underlying (arT_und he), goInt]
  | _ => cases hl
theorem map_one {f : Operand → V} {l : List Operand} {x : V} (h : l.map f = [x]) : ∃ a, l = [a] ∧ f a = x := by
  match l, h with
  | [a], h => exact ⟨a, rfl, by simpa using h⟩
theorem map_two {f : Operand → V} {l : List Operand} {x y : V} (h : l.map f = [x, y]) : ∃ a c, l = [a, c] ∧ f a = x ∧ f c = y := by
  cases l with
  | nil => cases h
  | cons a l =>
    cases l with
    | nil => simp at h
    | cons c l =>
      cases l with
      | nil => simp at h; exact ⟨a, c, rfl, h.1, h.2⟩
      | cons d l => simp at h
theorem bi_yes (hH : RepH P A w m H) (hρ : ∀ x, RepV P w (RO A w m H) m H (ρ x) (ρ' x)) (o : Oper) (b : Builtin) (as : Array Operand) (ts : Array TypeId) (ho : o.op = .call ⟨.builtin b, as, ts⟩) {C : Prop} {v : V} {H' : Heap} (h : stp P ρ o.op H = some (C, v, H')) (hC : C) : Yes P A w m H v H' ((execOp ρ' o).run P w) := by
  have h0 := h
  rw [ho] at h
  simp only [stp] at h
  obtain ⟨al, hal⟩ : ∃ al, al = as.toList := ⟨_, rfl⟩
  obtain ⟨tl, htl⟩ : ∃ tl, tl = ts.toList := ⟨_, rfl⟩
  have has : as = al.toArray := by rw [hal]
  have hts : ts = tl.toArray := by rw [htl]
  rw [← hal, ← htl] at h
  unfold biV at h
  split at h
  · rename_i e1
    obtain ⟨x, rfl, _⟩ := map_one e1
    exact len_yes hH hρ o x _ (by rw [ho, has, hts]) h0 hC
  · rename_i _ k x k' y e1
    obtain ⟨a, c, rfl, e1, e2⟩ := map_two e1
    injection h with h
    injection h with h1 h
    injection h with h2 h3
    subst h2; subst h3
    have ha := hρ a
    have hc := hρ c
    rw [e1] at ha; rw [e2] at hc
    exact Yes.pure hH (x := .int k (if y > x then y else x)) (by simp [execOp, ho, has, resolve, invoke, builtin, rep_i ha, rep_i hc, Builtin.max_, Builtin.max2]) (.i _ _)
  · rename_i _ k x k' y e1
    obtain ⟨a, c, rfl, e1, e2⟩ := map_two e1
    injection h with h
    injection h with h1 h
    injection h with h2 h3
    subst h2; subst h3
    have ha := hρ a
    have hc := hρ c
    rw [e1] at ha; rw [e2] at hc
    exact Yes.pure hH (x := .int k (if y < x then y else x)) (by simp [execOp, ho, has, resolve, invoke, builtin, rep_i ha, rep_i hc, Builtin.min_, Builtin.min2]) (.i _ _)
  · rename_i s x t u e1
    obtain ⟨a, c, rfl, _, _⟩ := map_two e1
    exact app_yes hH hρ o a c t u (by rw [ho, has, hts]) h0 hC
  · rename_i d x t r e1
    obtain ⟨a, c, rfl, _, _⟩ := map_two e1
    exact copy_yes hH hρ o a c t ts ⟨r, by rw [hts]⟩ (by rw [ho, has]) h0 hC
  · cases h
theorem bytT_und {t : TypeId} (h : bytT P t = true) : ∃ e, P.underlying t = some (.slice e) ∧ P.underlying e = some (.int .u8) := by
  unfold bytT at h
  split at h
  · rename_i e he
    split at h
    · rename_i hk
      exact ⟨e, elT_und he, ikT_und hk⟩
    · cases h
  · cases h
def numV : V → Int
  | .i _ n => n
  | _ => 0
theorem bytes_nums {F : Nat → Prop} : ∀ (vs : List V) (as : List Value), RepL P w F m H vs as.toArray → vs.all u8V = true → as = (vs.map numV).map (Value.int .u8)
  | [], as, h, _ => by
    have := h.1
    simp at this
    simp [this]
  | v :: vs, as, h, ha => by
    cases as with
    | nil => have := h.1; simp at this
    | cons a as =>
      simp only [List.all_cons, Bool.and_eq_true] at ha
      obtain ⟨y, hy, hr⟩ := h.get (j := 0) (v := v) rfl
      have hy : a = y := by simpa using hy
      subst hy
      have e1 : a = .int .u8 (numV v) := by
        have h1 := ha.1
        unfold u8V at h1
        split at h1
        · cases hr; rfl
        · cases h1
      have e2 := bytes_nums vs as (RepL.of (by have := h.1; simpa using this) fun j v hj => by
        obtain ⟨y, hy, hr⟩ := h.get (j := j + 1) (v := v) (by simpa using hj)
        exact ⟨y, by simpa using hy, hr⟩) ha.2
      rw [List.map_cons, List.map_cons, ← e1, ← e2]
theorem byV_num (vs : List V) (h : vs.all u8V = true) : (vs.map numV).map (fun n => UInt8.ofNat n.toNat) = vs.map byV := by
  rw [List.map_map]
  refine List.map_congr_left fun v hv => ?_
  have h1 := List.all_eq_true.1 h v hv
  unfold u8V at h1
  split at h1
  · rfl
  · cases h1
theorem freeze_block (W : World) (g e : Nat) (cells : Array Value) (hg : W.heap[g]? = some (.cells cells e (0, 0))) :
    (W.freeze ⟨g, cells.size, none⟩ 1).heap[g]? = some (.cells cells e (cells.size, cells.size + 1)) := by
  unfold World.freeze
  rw [if_neg (by decide)]
  show (W.heap.modify g _)[g]? = _
  rw [Array.getElem?_modify, if_pos rfl, hg]
  rfl
theorem freeze_other (W : World) (g n : Nat) (k : Nat) (hk : k ≠ g) : (W.freeze ⟨g, n, none⟩ 1).heap[k]? = W.heap[k]? := by
  unfold World.freeze
  rw [if_neg (by decide)]
  show (W.heap.modify g _)[k]? = _
  rw [Array.getElem?_modify, if_neg (Ne.symm hk)]
theorem freeze_size (W : World) (g n : Nat) : (W.freeze ⟨g, n, none⟩ 1).heap.size = W.heap.size := by
  unfold World.freeze
  rw [if_neg (by decide)]
  exact Array.size_modify
theorem freeze_rest (W : World) (g n : Nat) : (W.freeze ⟨g, n, none⟩ 1).os = W.os ∧ (W.freeze ⟨g, n, none⟩ 1).tape = W.tape ∧ (W.freeze ⟨g, n, none⟩ 1).output = W.output ∧ (W.freeze ⟨g, n, none⟩ 1).drawn = W.drawn := by
  unfold World.freeze
  rw [if_neg (by decide)]
  exact ⟨rfl, rfl, rfl, rfl⟩
theorem run_mark {W : World} {t e g n c : Nat} {cells : Array Value} (ht : P.underlying t = some (.slice e)) (he : P.underlying e = some (.int .u8)) (hg : W.heap[g]? = some (.cells cells e (0, 0))) :
    (convert t t (.slice (some ⟨g, 0, none⟩) n c)).run P W = .ok (.slice (some ⟨g, 0, none⟩) n c) (W.freeze ⟨g, cells.size, none⟩ 1) := by
  have hsh : W.shape? g = some (e, cells.size) := by
    unfold World.shape?
    rw [hg]
  simp [convert, run_underlying ht, run_underlying he, markStringish, hsh]
/-- A block of the call's own that is marked, and dead from here on. -/
theorem mark_out (hH : RepH P A w m H) {b g n : Nat} {k : Blk} {x : Value} (hr : RepV P w (RO A w m H) m H (.o b g 0 n) x) (hk : H.at b g = some k) (hn : k.cs.length = n) (h0 : 0 < n) :
    ∃ q c cur, x = .slice (some ⟨q, 0, none⟩) n c ∧ w.heap[q]? = some (.cells cur k.t (0, 0)) ∧ Out P A w m H (.sl false n k.cs) (H.set b { k with live := false }) x (w.freeze ⟨q, cur.size, none⟩ 1) m := by
  obtain ⟨a1, a2, a3⟩ := at_some hk
  obtain ⟨A', c, rfl, hlc, hmx, hd⟩ := o_rep hr hk
  rcases hd with ⟨d1, d2, d3, d4⟩ | ⟨d, d'⟩ | ⟨q, cur, d1, d2, d3, d4⟩
  · omega
  · omega
  subst d2
  refine ⟨q, c, cur, rfl, d3, ?_⟩
  have hrest := freeze_rest w q cur.size
  have hmut : Mut m H q := ⟨b, k, a1, a2, d1⟩
  have hkeep : Keep w m H (w.freeze ⟨q, cur.size, none⟩ 1) m (H.set b { k with live := false }) := by
    refine ⟨hrest.1, hrest.2.1, ⟨hrest.2.2.1, by rw [hrest.2.2.2]; exact Nat.le_refl _⟩, by rw [freeze_size]; exact Nat.le_refl _, fun p _ hp => freeze_other w q _ p (fun e => hp (e ▸ hmut)), ?_, by simp, fun b2 k2 k2' h h' => ?_⟩
    · rintro p ⟨b2, k2, h1, h2, h3⟩
      by_cases e : b2 = b
      · subst e
        rw [List.getElem?_set_self (List.getElem?_eq_some_iff.1 a1).1] at h1
        injection h1 with h1
        subst h1
        cases h2
      · rw [List.getElem?_set_ne (Ne.symm e)] at h1
        exact .inl ⟨b2, k2, h1, h2, h3⟩
    · by_cases e : b2 = b
      · subst e
        obtain rfl : k2 = k := Option.some.inj (h.symm.trans a1)
        rw [List.getElem?_set_self (List.getElem?_eq_some_iff.1 a1).1] at h'
        injection h' with h'
        subst h'
        exact ⟨Nat.le_refl _, fun _ hl => by cases hl⟩
      · rw [List.getElem?_set_ne (Ne.symm e)] at h'
        obtain rfl : k2 = k2' := Option.some.inj (h.symm.trans h')
        refine ⟨Nat.le_refl _, fun _ hl2 => ⟨hl2, rfl, rfl, fun q2 cur2 hm2 hc2 => ⟨cur2, ?_, rfl⟩⟩⟩
        rw [freeze_other w q _ q2 (fun e2 => e (hH.inj b2 b k2 k q2 h hl2 a1 a2 hm2 (e2 ▸ d1)))]
        exact hc2
  have hmem : RepH P A (w.freeze ⟨q, cur.size, none⟩ 1) m (H.set b { k with live := false }) := by
    refine hH.put (b0 := b) (k0 := { k with live := false }) hkeep (fun b2 h2 => List.getElem?_set_ne (Ne.symm h2)) (List.getElem?_set_self (List.getElem?_eq_some_iff.1 a1).1) (fun _ _ => rfl) (fun h => by cases h) (fun h => by cases h) (fun b2 k2 q2 h2 hb2 hl2 hm2 => freeze_other w q _ q2 (fun e2 => h2 (hH.inj b2 b k2 k q2 hb2 hl2 a1 a2 hm2 (e2 ▸ d1))))
  have hro : RO A (w.freeze ⟨q, cur.size, none⟩ 1) m (H.set b { k with live := false }) q := by
    refine ⟨by rw [freeze_size]; exact hH.lt a1 a2 d1, ?_, hH.own2 b q k a1 a2 d1⟩
    rintro ⟨b2, k2, h1, h2, h3⟩
    by_cases e : b2 = b
    · subst e
      rw [List.getElem?_set_self (List.getElem?_eq_some_iff.1 a1).1] at h1
      injection h1 with h1
      subst h1
      cases h2
    · rw [List.getElem?_set_ne (Ne.symm e)] at h1
      exact e (hH.inj b2 b k2 k q h1 h2 a1 a2 h3 d1)
  obtain ⟨_, cur', e1, e2, e3⟩ := hH.own b q k a1 a2 d1
  obtain rfl : cur = cur' := by
    rw [d3] at e1
    injection e1 with e1
    injection e1 with e1
  refine ⟨.sl _ _ (fun j => cur.getD j undef) hlc (fun e => by cases e) (fun j v hj => ?_) (fun j v hj => ?_) (fun e => by cases e), hmem, hkeep⟩
  · obtain ⟨y, hy, _⟩ := e3 j v hj
    refine ⟨_, rfl, hro, ?_⟩
    rw [Addr.add_lit, Nat.zero_add]
    simp only [World.cell?, freeze_block w q k.t cur d3, Option.isSome_none, Bool.false_eq_true, if_false]
    rw [Array.getD_eq_getD_getElem?, hy]; rfl
  · obtain ⟨y, hy, hr⟩ := e3 j v hj
    rw [Array.getD_eq_getD_getElem?, hy]
    exact hr.keep hkeep
/-- Bytes of a string, a string of bytes. -/
theorem cvs_yes (hH : RepH P A w m H) (hρ : ∀ x, RepV P w (RO A w m H) m H (ρ x) (ρ' x)) (o : Oper) (s t : TypeId) (x : Operand) (ho : o.op = .convert s t x) {C : Prop} {v : V} {H' : Heap} (h : cvS P H s t (ρ x) = some (C, v, H')) (hC : C) : Yes P A w m H v H' ((execOp ρ' o).run P w) := by
  have hx := hρ x
  unfold cvS at h
  split at h
  · rename_i b e1 e2
    rw [e2] at hx
    split at h
    · rename_i hb
      injection h with h
      injection h with h1 h
      injection h with h2 h3
      subst h2; subst h3
      obtain ⟨e, he, hu8⟩ := bytT_und hb
      have hrun := run_bytes_of_string (P := P) w s t e b (strT_und e1) he hu8
      have hge := grownCap_ge w b.size 0 e
      generalize grownCap w b.size 0 e = cap at hrun hge
      refine ⟨m, _, _, .inl (by simp only [execOp, ho, rep_s hx]; simp only [Sem.run_bind, hrun, Result.andThen_ok, Sem.run_pure]; rfl), ?_⟩
      have hm2 := hH.drew.alloc (.cells (bytesRow b cap) e ((bytesRow b cap).size, (bytesRow b cap).size + 1))
      have hk2 := (Keep.drew w m H).trans (Keep.alloc hH.drew (.cells (bytesRow b cap) e ((bytesRow b cap).size, (bytesRow b cap).size + 1)))
      refine ⟨.sl (some ⟨w.heap.size, 0, none⟩) cap (fun j => .int .u8 ((b.data.toList.getD j 0).toNat : Int)) hge (fun e => by cases e) (fun j v hj => ?_) (fun j v hj => ?_) (fun e => by cases e), hm2, hk2⟩
      · rw [List.getElem?_map, Option.map_eq_some_iff] at hj
        obtain ⟨c, hc, rfl⟩ := hj
        have hlt : j < b.data.size := by have := (List.getElem?_eq_some_iff.1 hc).1; simpa using this
        refine ⟨_, rfl, ⟨by rw [alloc_size]; exact Nat.lt_succ_self _, fun hm => Nat.lt_irrefl _ (Mut.lt hH hm), fun hb => Nat.lt_irrefl _ (hH.ban _ hb)⟩, ?_⟩
        rw [Addr.add_lit, Nat.zero_add]
        have := World.cell?_alloc_mark w.drew (bytesRow b cap) e ((bytesRow b cap).size, (bytesRow b cap).size + 1) j
        rw [show w.drew.heap.size = w.heap.size from rfl] at this
        rw [this, bytesRow_at b cap j hlt, List.getD_eq_getElem?_getD, hc]
        congr 3
        rw [Array.getElem?_toList, Array.getElem?_eq_getElem hlt] at hc
        injection hc with hc
        rw [hc]; rfl
      · rw [List.getElem?_map, Option.map_eq_some_iff] at hj
        obtain ⟨c, hc, rfl⟩ := hj
        rw [List.getD_eq_getElem?_getD, hc]
        exact .i _ _
    · cases h
  · cases h
  · rename_i e1
    split at h
    · rename_i hb
      obtain ⟨⟨c, n, vs⟩, hs, h⟩ := Option.map_eq_some_iff.1 h
      injection h with h1 h
      injection h with h2 h3
      subst h1; subst h2; subst h3
      obtain ⟨e, he, hu8⟩ := bytT_und hb.1
      obtain ⟨s1, as, s2, s3, s4, s5, s6⟩ := src_rep hH hs hC.1 hx
      have hn := bytes_nums vs as s4 hC.2
      have hf := s5 w fun _ => rfl
      refine Yes.pure hH (x := .string ⟨(vs.map byV).toArray⟩) ?_ (RepV.s _)
      have key : (convert s t (ρ' x)).run P w = .ok (.string ⟨(vs.map byV).toArray⟩) w := by
        cases hv : ρ' x with
        | slice A' l c' =>
          rw [hv] at hf s1
          have hl : l = n := by
            simp [Builtin.lenOf] at s1
            exact s1
          subst hl
          rw [run_convert_bytes_string w s t e A' l c' he hu8 (strT_und hb.2)]
          cases A' with
          | none =>
            have : as = [] := by
              simp [Builtin.firstCells] at hf
              exact hf
            subst this
            have : vs = [] := by have := s2; exact List.length_eq_zero_iff.1 (by simpa using this.symm)
            subst this
            rfl
          | some a =>
            have hlc : (loadCells a l).run P w = .ok ((vs.map numV).map (Value.int .u8)).toArray w := by
              simp only [Builtin.firstCells, Nat.mul_one] at hf
              rw [hf, hn]
            rw [run_bytesToString w a l c' _ hlc, foldl_push_bytes, byV_num vs hC.2]
            simp [ByteArray.empty, ByteArray.emptyWithCapacity]
            rfl
        | _ =>
          exfalso
          rw [hv] at hx
          have hns : ∀ b, ρ x ≠ .s b := fun b hb => by simp_all
          generalize ρ x = q at hx hs hns
          cases hx <;> first | (simp [srcV] at hs; done) | exact hns _ rfl
      simp only [execOp, ho]
      simp only [Sem.run_bind, key, Result.andThen_ok, Sem.run_pure]
    · split at h
      · rename_i hb
        obtain ⟨hst, hb⟩ := hb
        subst hst
        unfold mrkV at h
        split at h
        · rename_i b g n hx2
          rw [hx2] at hx
          obtain ⟨k, hk, h⟩ := Option.map_eq_some_iff.1 h
          injection h with h1 h
          injection h with h2 h3
          subst h1; subst h2; subst h3
          obtain ⟨c1, c2, c3⟩ := hC
          obtain ⟨e, he, hu8⟩ := bytT_und hb
          have hke : e = k.t := by
            have := elT_und c3
            rw [he] at this
            injection this with this
            injection this
          obtain ⟨q, c, cur, hv, hq, hout⟩ := mark_out hH hx hk c1 c2
          rw [hv] at hout
          refine ⟨m, _, _, .inl ?_, hout⟩
          have hrun := run_mark (P := P) (n := n) (c := c) he hu8 (hke ▸ hq)
          simp only [execOp, ho, hv]
          simp only [Sem.run_bind, hrun, Result.andThen_ok, Sem.run_pure]
        · cases h
      · cases h
  · cases h
theorem conv_yes (hH : RepH P A w m H) (hρ : ∀ x, RepV P w (RO A w m H) m H (ρ x) (ρ' x)) (o : Oper) (s t : TypeId) (x : Operand) (ho : o.op = .convert s t x) {C : Prop} {v : V} {H' : Heap} (h : stp P ρ o.op H = some (C, v, H')) (hC : C) : Yes P A w m H v H' ((execOp ρ' o).run P w) := by
  rw [ho] at h
  simp only [stp] at h
  split at h
  · rename_i v' hb
    injection h with h
    injection h with h1 h
    injection h with h2 h3
    subst h2; subst h3
    exact cv_yes hH hρ o s t x ho hb
  · exact cvs_yes hH hρ o s t x ho h hC
/-- An operation of the machine is the program's. -/
theorem stp_yes (hH : RepH P A w m H) (hρ : ∀ x, RepV P w (RO A w m H) m H (ρ x) (ρ' x)) (o : Oper) {C : Prop} {v : V} {H' : Heap} (h : stp P ρ o.op H = some (C, v, H')) (hC : C) : Yes P A w m H v H' ((execOp ρ' o).run P w) := by
  cases ho : o.op with
  | move x =>
    rw [ho] at h
    injection h with h
    injection h with h1 h
    injection h with h2 h3
    subst h2; subst h3
    exact Yes.pure hH (by simp [execOp, ho]) (hρ x)
  | assign x =>
    rw [ho] at h
    injection h with h
    injection h with h1 h
    injection h with h2 h3
    subst h2; subst h3
    exact Yes.pure hH (by simp [execOp, ho]) (hρ x)
  | pick c a b =>
    rw [ho] at h
    simp only [stp] at h
    split at h
    · rename_i cv hc
      injection h with h
      injection h with h1 h
      injection h with h2 h3
      subst h2; subst h3
      have hcv := hρ c
      rw [hc] at hcv
      refine Yes.pure hH (x := if cv = true then ρ' a else ρ' b) ?_ ?_
      · simp [execOp, ho, rep_b hcv, asBool]
      · split
        · exact hρ a
        · exact hρ b
    · cases h
  | alloc t => exact alloc_yes hH o t ho h hC
  | box t x => exact box_yes hH hρ o t x ho h hC
  | build t ps => exact build_yes hH hρ o t ps ho h hC
  | buildSlice t n ps => exact lits_yes hH hρ o t n ps ho h hC
  | load t a => exact load_yes hH hρ o t a ho h hC
  | store t a x => exact store_yes hH hρ o t a x ho h hC
  | nilCheck x => exact nilCheck_yes hH hρ o x ho h hC
  | binOp op t x y yt => exact bin_yes hH hρ o op t x y yt ho h hC
  | unOp op t x => exact un_yes hH hρ o op t x ho h hC
  | convert s t x => exact conv_yes hH hρ o s t x ho h hC
  | makeFunc fn a c => exact func_yes hH hρ o fn a c ho h hC
  | makeSlice t l c => exact make_yes hH hρ o t l c ho h hC
  | slice t x lo hi mx => exact slice_yes hH hρ o t x lo hi mx ho h hC
  | fieldAddr t x f => exact field_yes hH hρ o t x f ho h hC
  | field t x f => exact fld_yes hH hρ o t x f ho h hC
  | indexAddr t x ix => exact idx_yes hH hρ o t x ix ho h hC
  | index t x ix => exact index_yes hH hρ o t x ix ho h hC
  | extract x i => exact extract_yes hH hρ o x i ho h hC
  | call c =>
    obtain ⟨callee, as, ts⟩ := c
    cases callee with
    | builtin b => exact bi_yes hH hρ o b as ts ho h hC
    | value f => rw [ho] at h; cases h
    | invoke r n => rw [ho] at h; cases h
  | _ => rw [ho] at h; cases h
end
end Go.Proofs.E
end
/- The machine of values: regions, control, calls. Of no function. -/
section
set_option linter.unusedVariables false
set_option linter.unusedSimpArgs false
set_option linter.unusedSectionVars false
namespace Go.Proofs.E
open Go
set_option linter.unusedVariables false
set_option linter.unusedSimpArgs false
/-- A call: what it hands back, and the memory behind it. -/
def DoesAt (P : Program) (A : Amb) (w : World) (m : Nat → Option Nat) (H : Heap) (K : V → Heap → Prop) (v : Value) (w' : World) : Prop :=
  ∃ r H' m', K r H' ∧ Out P A w m H r H' v w' m'
def Does (P : Program) (A : Amb) (f : FuncId) (args : List V) (H : Heap) (K : V → Heap → Prop) : Prop :=
  ∀ (w : World) (m : Nat → Option Nat) (vs : Array Value), RepH P A w m H → RepL P w (RO A w m H) m H args vs →
    ∃ fn, P.funcs[f]? = some fn ∧ (fn.name == "runtime.NumGoroutine") = false ∧
      ((fn.body.isNone = false ∧ Calls P f vs w fun e w' => ∃ v, e = .returned v ∧ DoesAt P A w m H K v w') ∨ ∃ v w', (callFunc f vs).run P w = .ok (.value v) w' ∧ DoesAt P A w m H K v w')
theorem Does.mono {P : Program} {A : Amb} {f : FuncId} {args : List V} {H : Heap} {K K' : V → Heap → Prop} (h : Does P A f args H K) (hk : ∀ r H', K r H' → K' r H') : Does P A f args H K' := by
  intro w m vs h1 h2
  obtain ⟨fn, a1, a2, a3⟩ := h w m vs h1 h2
  refine ⟨fn, a1, a2, ?_⟩
  rcases a3 with ⟨b1, b2⟩ | ⟨v, w', b1, r, H', m', b2, b3⟩
  · exact .inl ⟨b1, b2.mono fun e w' ⟨v, e1, r, H', m', e2, e3⟩ => ⟨v, e1, r, H', m', hk _ _ e2, e3⟩⟩
  · exact .inr ⟨v, w', b1, r, H', m', hk _ _ b2, b3⟩
def onS (x : Option (Prop × V × Heap)) (K : V → Heap → Prop) : Prop := match x with | some (c, v, h) => c ∧ K v h | none => False
def onG (x : Option Bool) (a b : St → Prop) (s s' : St) : Prop := match x with | some g => if g = true then a s else b s' | none => False
def bothK (a b : St → Prop) (s : St) : Prop := a s ∧ b s
def onC (x : V) (a b : St → Prop) (s : St) : Prop := match x with | .b g => if g = true then a s else b s | .bq => bothK a b s | _ => False
/-- Whether an operation is wanted. -/
def gdV (ops : Array Oper) (t : Tm) (g : Option (Nat × Bool)) : Option Bool :=
  match g with
  | none => some true
  | some (j, b) => match (ops[j]?).bind (·.dst) with
    | some d => match lk t d with
      | .b c => some (c == b)
      | .tup [] => some false
      | _ => none
    | none => none
section
variable (P : Program) (A : Amb)
def callW (f : V) (args : List V) (H : Heap) (K : V → Heap → Prop) : Prop :=
  match f with
  | .f (.func f) a c => Does P A f (a ++ args ++ c) H K
  | _ => False
def OpW (o : Oper) (s : St) (K : V → Heap → Prop) : Prop :=
  match o.op with
  | .call ⟨.value f, as, _⟩ => callW P A (ev s.t f) (as.toList.map (ev s.t)) s.h K
  | op => onS (stp P (ev s.t) op s.h) K
/-- What is made is only read from here on. -/
def fzV (v : V) (h : Heap) : Option (V × Heap) :=
  match v with
  | .o b g off l => match h.at b g with
    | some k => match szT P k.t with
      | some z => some (.sl false l ((k.cs.drop off).take (l * z)), h.set b { k with live := false })
      | none => none
    | none => none
  | .ns => some (.sl false 0 [], h)
  | .sl f n cs => some (.sl f n cs, h)
  | _ => none
def inFz (fz : List Nat) (d : Option Nat) : Bool := match d with | some d => fz.contains d | none => false
def fzO (fz : List Nat) (d : Option Nat) (v : V) (h : Heap) : Option (V × Heap) := if inFz fz d = true then fzV P v h else some (v, h)
def onV (x : Option (V × Heap)) (next : St → Prop) (t : Tm) (d : Option Nat) : Prop := match x with | some (v, h) => next ⟨putV t d v, h⟩ | none => False
def kOp (fz : List Nat) (next : St → Prop) (t : Tm) (d : Option Nat) (v : V) (h : Heap) : Prop := onV (fzO P fz d v h) next t d
def OpWs (fz : List Nat) (o : Oper) (next : St → Prop) (s : St) : Prop := OpW P A o s (kOp P fz next s.t o.dst)
def OpsW (fz : List Nat) (ops : Array Oper) : List Oper → (St → Prop) → St → Prop
  | [], Q, s => Q s
  | o :: rest, Q, s => onG (gdV ops s.t o.guard) (OpWs P A fz o (OpsW fz ops rest Q)) (OpsW fz ops rest Q) s ⟨putV s.t o.dst (.tup []), s.h⟩
/-- Operations that leave memory alone. -/
def kQ (H : Heap) (K : V → Prop) (v : V) (h : Heap) : Prop := h = H ∧ K v
def callQ (f : V) (args : List V) (H : Heap) (K : V → Prop) : Prop :=
  match f with
  | .f (.func f) a c => ∃ v, Does P A f (a ++ args ++ c) H (fun r h => r = v ∧ h = H) ∧ K v
  | _ => False
def OpQ (o : Oper) (s : St) (K : V → Prop) : Prop :=
  match o.op with
  | .call ⟨.value f, as, _⟩ => callQ P A (ev s.t f) (as.toList.map (ev s.t)) s.h K
  | op => onS (stp P (ev s.t) op s.h) (kQ s.h K)
def kOq (next : St → Prop) (t : Tm) (h : Heap) (d : Option Nat) (v : V) : Prop := next ⟨putV t d v, h⟩
def OpQs (o : Oper) (next : St → Prop) (s : St) : Prop := OpQ P A o s (kOq next s.t s.h o.dst)
def OpsQ (ops : Array Oper) : List Oper → (St → Prop) → St → Prop
  | [], Q, s => Q s
  | o :: rest, Q, s => onG (gdV ops s.t o.guard) (OpQs P A o (OpsQ ops rest Q)) (OpsQ ops rest Q) s ⟨putV s.t o.dst (.tup []), s.h⟩
/-- A region whose order is open: the first n leave memory alone; the others are in order. -/
def headArr (ops : Array Oper) (n : Nat) : Array Bool := (Array.range ops.size).map fun i => decide (i < n)
def depOk (ops : Array Oper) (n : Nat) : Bool :=
  (List.range n).all fun i => match ops[i]? with
    | none => false
    | some o => (o.after.all fun e => !Region.binds .any e || decide (e.on < i)) &&
      (List.range n).all fun j => match ops[j]? with
        | none => false
        | some oj => match oj.dst with
          | none => true
          | some d => decide (j = i) || ((o.dst != some d) && (!(o.looksAt ops).contains d || (decide (j < i) && Region.waitsFor .any ops i j) || (decide (i < j) && Region.waitsFor .any ops j i)))
def drawOk (ops : Array Oper) (n : Nat) : Bool :=
  decide (n ≤ ops.size) && (decide (n = ops.size) || (Region.sinkB .any ops n && Region.chainB .any ops n)) && Region.seqB .any ops (ops.size - n) n (headArr ops n) && depOk ops n && Region.noSelect ops
/-- Making, at a block that is laid out ahead. -/
def stpP (b : Nat) (ρ : Operand → V) (op : Op) (H : Heap) : Option (Prop × V × Heap) :=
  match H[b]? with
  | none => none
  | some k => match op with
    | .alloc t => (zrT P t).bind fun z => if z.all V.one = true then some (k.g = 0, .p b 1 0, H.set b ⟨t, 1, z, true⟩) else none
    | .makeSlice t l c => match ρ l, ρ c, elT P t with
      | .i _ l, .i _ c, some e => match szT P e, byT P e, zrT P e with
        | some z, some y, some zs => some (k.g = 0 ∧ 0 ≤ l ∧ l ≤ c ∧ y * c ≤ 281474976710656 ∧ c ≤ 281474976710656 ∧ zs.length = z ∧ 0 < z ∧ zs.all V.one = true, .o b 1 0 l.toNat, H.set b ⟨e, 1, (List.replicate l.toNat zs).flatten, true⟩)
        | _, _, _ => none
      | _, _, _ => none
    | _ => none
def wrS (pb : Option Nat) (ρ : Operand → V) (op : Op) (H : Heap) : Option (Prop × V × Heap) := match pb with | none => stp P ρ op H | some b => stpP P b ρ op H
/-- An operation of a region's head that writes: which, at which block that is laid out ahead, what it waits for. -/
structure Wr where
  i : Nat
  b : Option Nat
  w : List Nat
/-- The head of a region that writes at some of its operations, whatever comes first: Hs tells the heap by which of them are done. -/
def OpM (o : Oper) (k : Nat) (a b c : Wr) (Hs : Bool → Bool → Bool → Heap) (x y z : Bool) (t : Tm) (K : V → Prop) : Prop :=
  if k = a.i then onS (wrS P a.b (ev t) o.op (Hs false y z)) (kQ (Hs true y z) K) else if k = b.i then onS (wrS P b.b (ev t) o.op (Hs x false z)) (kQ (Hs x true z) K)
  else if k = c.i then onS (wrS P c.b (ev t) o.op (Hs x y false)) (kQ (Hs x y true) K) else OpQ P A o ⟨t, Hs x y z⟩ K
def kOt (next : St → Prop) (t : Tm) (h : Heap) (d : Option Nat) (v : V) : Prop := (d = none → v = .any) ∧ next ⟨putV t d v, h⟩
def OpMs (o : Oper) (k : Nat) (a b c : Wr) (Hs : Bool → Bool → Bool → Heap) (x y z : Bool) (next : St → Prop) (s : St) : Prop := OpM P A o k a b c Hs x y z s.t (kOt next s.t s.h o.dst)
def OpsM (ops : Array Oper) (a b c : Wr) (Hs : Bool → Bool → Bool → Heap) (x y z : Bool) (t1 : Tm) : List Oper → Nat → St → Prop
  | [], _, s => s.t = t1
  | o :: rest, k, s => onG (gdV ops s.t o.guard) (OpMs P A o k a b c Hs (x && !a.w.contains k) (y && !b.w.contains k) (z && !c.w.contains k) (OpsM ops a b c Hs x y z t1 rest (k + 1))) (OpsM ops a b c Hs x y z t1 rest (k + 1)) s ⟨putV s.t o.dst (.tup []), s.h⟩
/-- What an operation waits for. -/
def waitOk (ops : Array Oper) (p : Nat) (rp : List Nat) : Bool := rp.all fun j => (p :: rp).any fun i => decide (j < i) && match ops[i]? with | some o => o.after.any fun e => Region.binds .any e && decide (e.on = j) | none => false
def deads (np : Nat) : Heap := List.replicate np ⟨0, 0, [], false⟩
def RegM (fz : List Nat) (ops : Array Oper) (Q : St → Prop) (s : St) : Prop := ∃ n a b c Hs np t1, drawOk ops n = true ∧ a.i ≠ b.i ∧ a.i ≠ c.i ∧ b.i ≠ c.i ∧ ((ops.toList.take n).all fun o => o.guard.isNone) = true ∧ waitOk ops a.i a.w = true ∧ waitOk ops b.i b.w = true ∧ waitOk ops c.i c.w = true ∧ Hs false false false = s.h ++ deads np ∧
  (∀ x y z, (x = true → a.i < n) → (y = true → b.i < n) → (z = true → c.i < n) → OpsM P A ops a b c Hs x y z t1 (ops.toList.take n) 0 ⟨s.t, []⟩) ∧ OpsW P A fz ops (ops.toList.drop n) Q ⟨t1, Hs (decide (a.i < n)) (decide (b.i < n)) (decide (c.i < n))⟩
def updF (f : Nat → Bool) (k : Nat) (b : Bool) : Nat → Bool := fun j => if j = k then b else f j
def mskF (W : List Wr) (k : Nat) (f : Nat → Bool) : Nat → Bool := fun j => (W.any fun u => decide (u.i = k) && u.w.contains j) || (f j && !(W.any fun u => decide (u.i = j) && u.w.contains k))
/-- The same, of however many that write. -/
def OpL (o : Oper) (k : Nat) (W : List Wr) (Hs : (Nat → Bool) → Heap) (f : Nat → Bool) (t : Tm) (K : V → Prop) : Prop :=
  match W.find? (fun u => decide (u.i = k)) with
  | some u => onS (wrS P u.b (ev t) o.op (Hs (updF f k false))) (kQ (Hs (updF f k true)) K)
  | none => OpQ P A o ⟨t, Hs f⟩ K
def OpLs (o : Oper) (k : Nat) (W : List Wr) (Hs : (Nat → Bool) → Heap) (f : Nat → Bool) (next : St → Prop) (s : St) : Prop := OpL P A o k W Hs f s.t (kOt next s.t s.h o.dst)
def OpsL (ops : Array Oper) (W : List Wr) (Hs : (Nat → Bool) → Heap) (f : Nat → Bool) (t1 : Tm) : List Oper → Nat → St → Prop
  | [], _, s => s.t = t1
  | o :: rest, k, s => onG (gdV ops s.t o.guard) (OpLs P A o k W Hs (mskF W k f) (OpsL ops W Hs f t1 rest (k + 1))) (OpsL ops W Hs f t1 rest (k + 1)) s ⟨putV s.t o.dst (.tup []), s.h⟩
def goodF (W : List Wr) (f : Nat → Bool) : Prop := ∀ u ∈ W, f u.i = true → ∀ v ∈ W, u.w.contains v.i = true → f v.i = true
def RegL (fz : List Nat) (ops : Array Oper) (Q : St → Prop) (s : St) : Prop := ∃ n W Hs np t1, drawOk ops n = true ∧ (W.all fun u => decide (u.i < n) && waitOk ops u.i u.w) = true ∧ ((ops.toList.take n).all fun o => o.guard.isNone) = true ∧ Hs (fun _ => false) = s.h ++ deads np ∧
  (∀ f g : Nat → Bool, (∀ j, (W.any fun u => decide (u.i = j)) = true → f j = g j) → Hs f = Hs g) ∧ (∀ f, goodF W f → OpsL P A ops W Hs f t1 (ops.toList.take n) 0 ⟨s.t, []⟩) ∧ OpsW P A fz ops (ops.toList.drop n) Q ⟨t1, Hs (fun j => decide (j < n))⟩
def RegD (fz : List Nat) (ops : Array Oper) (Q : St → Prop) (s : St) : Prop := P.follows .mixedOrders = true ∧ ((∃ n, drawOk ops n = true ∧ OpsQ P A ops (ops.toList.take n) (OpsW P A fz ops (ops.toList.drop n) Q) s) ∨ RegM P A fz ops Q s ∨ RegL P A fz ops Q s)
/-- A state that tells less. -/
def Le (n0 : Nat) (s' s : St) : Prop := n0 ≤ s'.h.length ∧ ∀ (A : Amb) (w : World) (m : Nat → Option Nat), RepH P A w m s.h → ∃ m', RepH P A w m' s'.h ∧ (∀ q, Mut m' s'.h q → Mut m s.h q) ∧
  (∀ t x, RepV P w (RO A w m s.h) m s.h (lk s.t t) x → RepV P w (RO A w m' s'.h) m' s'.h (lk s'.t t) x) ∧
  (∀ b k', b < n0 → s'.h[b]? = some k' → ∃ k, s.h[b]? = some k ∧ k'.g = k.g ∧ (k'.live = true → k.live = true ∧ k'.t = k.t ∧ m' b = m b))
def seqK (next : St → Prop) (Q : Exit → St → Prop) : Exit → St → Prop
  | .normal, s => next s
  | e, s => Q e s
def scoK (Q : Exit → St → Prop) : Exit → St → Prop
  | .goto _, _ => False
  | e, s => Q e s
def blkK (id : Nat) (Q : Exit → St → Prop) : Exit → St → Prop
  | .exit k, s => if k = id then Q .normal s else Q (.exit k) s
  | e, s => Q e s
def loopK (n0 : Nat) (I : Nat → St → Prop) (n : Nat) (Q : Exit → St → Prop) : Exit → St → Prop
  | .normal, s => ∃ n' s', n' < n ∧ I n' s' ∧ Le P n0 s' s
  | e, s => Q e s
def LoopW (n0 : Nat) (body : (Exit → St → Prop) → St → Prop) (Q : Exit → St → Prop) (s : St) : Prop :=
  ∃ I : Nat → St → Prop, (∃ n s', I n s' ∧ Le P n0 s' s) ∧ ∀ n s', I n s' → body (loopK P n0 I n Q) s'
def W (n0 : Nat) (fz : List Nat) : Code → (Exit → St → Prop) → St → Prop
  | .skip, Q, s => Q .normal s
  | .region _ ops false, Q, s => OpsW P A fz ops ops.toList (Q .normal) s
  | .region _ ops true, Q, s => RegD P A fz ops (Q .normal) s
  | .seq a b, Q, s => W n0 fz a (seqK (W n0 fz b Q) Q) s
  | .cond c a b, Q, s => onC (ev s.t c) (W n0 fz a Q) (W n0 fz b Q) s
  | .block id c, Q, s => W n0 fz c (blkK id Q) s
  | .loop c, Q, s => LoopW P n0 (W n0 fz c) Q s
  | .exit k, Q, s => Q (.exit k) s
  | .ret, Q, s => Q .ret s
  | .label _, Q, s => Q .normal s
  | .scope c, Q, s => W n0 fz c (scoK Q) s
  | _, _, _ => False
end
/-- No slot lies outside. -/
def opsOk (N : Nat) (ops : Array Oper) : Bool := ops.all fun o => match o.dst with | some d => decide (d < N) | none => true
def codeOk (N : Nat) : Code → Bool
  | .region _ ops _ => opsOk N ops
  | .seq a b => codeOk N a && codeOk N b
  | .cond _ a b => codeOk N a && codeOk N b
  | .block _ c => codeOk N c
  | .loop c => codeOk N c
  | .scope c => codeOk N c
  | _ => true
section
variable {P : Program} {A : Amb} {N : Nat}
/-- A state of the program. -/
structure RepS (P : Program) (A : Amb) (N : Nat) (w0 : World) (m0 : Nat → Option Nat) (H0 : Heap) (w : World) (m : Nat → Option Nat) (s : St) (a : Act) : Prop where
  mem : RepH P A w m s.h
  defers : a.defers = []
  size : a.tmps.size = N
  slot : ∀ t, RepV P w (RO A w m s.h) m s.h (lk s.t t) (a.tmps.getD t undef)
  keep : Keep w0 m0 H0 w m s.h
variable {w0 : World} {m0 : Nat → Option Nat} {H0 : Heap} {w : World} {m : Nat → Option Nat} {s : St} {a : Act}
theorem RepS.eval (h : RepS P A N w0 m0 H0 w m s a) (x : Operand) : RepV P w (RO A w m s.h) m s.h (ev s.t x) (a.eval x) := by
  cases x with
  | tmp t => exact h.slot t
  | const v => exact vOf_rep _ _ _ _ _ _
  | global g => exact .any _
  | func f => exact .f #[] #[] rfl rfl (fun j v h => by simp at h) (fun j v h => by simp at h)
theorem lk_put (t : Tm) (d : Option Nat) (v : V) (n : Nat) : lk (putV t d v) n = if d = some n then v else lk t n := by
  cases d with
  | none => simp [putV]
  | some d =>
    simp only [putV, lk]
    by_cases e : d = n <;> simp [e]
theorem getD_put (a : Act) (d : Option Nat) (x : Value) (n : Nat) (hd : ∀ k, d = some k → k < a.tmps.size) : (a.put d x).tmps.getD n undef = if d = some n then x else a.tmps.getD n undef := by
  cases d with
  | none => simp [Act.put]
  | some d =>
    have := hd d rfl
    by_cases e : d = n
    · subst e
      simp [Act.put, Array.getD_eq_getD_getElem?, this]
    · simp [Act.put, Array.getD_eq_getD_getElem?, Array.getElem?_setIfInBounds_ne e, e]
theorem RepS.put (h : RepS P A N w0 m0 H0 w m s a) {d : Option Nat} {v : V} {H' : Heap} {x : Value} {w' : World} {m' : Nat → Option Nat} (ho : Out P A w m s.h v H' x w' m') (hd : ∀ k, d = some k → k < N) :
    RepS P A N w0 m0 H0 w' m' ⟨putV s.t d v, H'⟩ (a.put d x) where
  mem := ho.mem
  defers := by cases d <;> exact h.defers
  size := by cases d <;> simp [Act.put, h.size]
  slot n := by
    rw [getD_put a d x n (by rw [h.size]; exact hd)]
    show RepV P w' _ m' H' (lk (putV s.t d v) n) _
    rw [lk_put]
    split
    · exact ho.rep
    · exact (h.slot n).keep ho.keep
  keep := h.keep.trans ho.keep
theorem RepS.skip (h : RepS P A N w0 m0 H0 w m s a) {d : Option Nat} (hd : ∀ k, d = some k → k < N) : RepS P A N w0 m0 H0 w m ⟨putV s.t d (.tup []), s.h⟩ (a.put d undef) :=
  h.put ⟨.tup #[] rfl (fun j v h => by simp at h), h.mem, Keep.refl _ _ _⟩ hd
def Post (P : Program) (A : Amb) (N : Nat) (w0 : World) (m0 : Nat → Option Nat) (H0 : Heap) (Q : Exit → St → Prop) (e : Exit) (a : Act) (w : World) : Prop := ∃ m s, Q e s ∧ RepS P A N w0 m0 H0 w m s a
theorem gd_wanted (h : RepS P A N w0 m0 H0 w m s a) {ops : Array Oper} {o : Oper} {g : Bool} (hg : gdV ops s.t o.guard = some g) : Region.wanted o (yielded ops a.tmps) = g := by
  unfold gdV at hg
  unfold Region.wanted
  split at hg
  · rename_i e
    injection hg with hg
    rw [e, ← hg]
  · rename_i j b e
    rw [e]
    simp only
    split at hg
    · rename_i d hd
      have hs := h.slot d
      unfold yielded
      rw [hd]
      simp only [Option.bind_some]
      split at hg
      · rename_i c hc
        rw [hc] at hs
        injection hg with hg
        have hs := rep_b hs
        have : a.tmps[d]? = some (.bool c) := by
          rw [Array.getD_eq_getD_getElem?] at hs
          cases he : a.tmps[d]? with
          | none => rw [he] at hs; cases hs
          | some y => rw [he] at hs; simpa using hs
        rw [this, ← hg]
        cases c <;> cases b <;> rfl
      · rename_i hc
        rw [hc] at hs
        injection hg with hg
        obtain ⟨as, hs, hl⟩ := rep_tup hs
        rw [← hg]
        rw [Array.getD_eq_getD_getElem?] at hs
        cases he : a.tmps[d]? with
        | none => rfl
        | some y =>
          rw [he] at hs
          simp only [Option.getD_some] at hs
          subst hs
          rfl
      · cases hg
    · cases hg
/-- One operation of the program. -/
theorem stpP_yes {ρ : Operand → V} {ρ' : Operand → Value} {w : World} {m : Nat → Option Nat} {H : Heap} (hH : RepH P A w m H) (hρ : ∀ x, RepV P w (RO A w m H) m H (ρ x) (ρ' x)) (o : Oper) {b : Nat} {C : Prop} {v : V} {H' : Heap} (h : stpP P b ρ o.op H = some (C, v, H')) (hC : C) : Yes P A w m H v H' ((execOp ρ' o).run P w) := by
  unfold stpP at h
  split at h
  · cases h
  · rename_i kb hb
    have hlt := (List.getElem?_eq_some_iff.1 hb).1
    split at h
    · rename_i t ho
      obtain ⟨z, hz, h⟩ := Option.bind_eq_some_iff.1 h
      split at h
      · injection h with h
        injection h with h1 h
        injection h with h2 h3
        subst h1; subst h2; subst h3
        obtain ⟨x, hx, hr⟩ := zr_rep hz w (RO A w m H) m H
        refine ⟨_, w.alloc (.cells x.cells t), .pointer (some ⟨w.heap.size, 0, none⟩), .inl ?_, .p _ (by simpa using hlt) (fun k hk => ?_), hH.moved t 1 z x.cells hb (by omega) (by rw [hr.1]; exact Nat.le_refl _) (fun j u hj => hr.get hj), Keep.moved hH _ hb (by show kb.g < 1; omega)⟩
        · simp [execOp, ho, Instr.alloc, hx, newVar, newRow]
        · rw [List.getElem?_set_self hlt] at hk
          injection hk with hk
          subst hk
          exact ⟨Nat.le_refl _, fun _ _ => ⟨_, at_self _ _ _, rfl⟩⟩
      · cases h
    · rename_i t l c ho
      split at h
      · rename_i k1 l1 k2 c1 e e1 e2 e3
        split at h
        · rename_i z y zs f1 f2 f3
          injection h with h
          injection h with h1 h
          injection h with h2 h3
          subst h1; subst h2; subst h3
          obtain ⟨g0, g1, g2, g3, g4, g5, g6, g7⟩ := hC
          have hl := hρ l
          have hc := hρ c
          rw [e1] at hl; rw [e2] at hc
          obtain ⟨i, hi, hz⟩ := Option.bind_eq_some_iff.1 f3
          obtain ⟨x, hx, hxe⟩ := Option.map_eq_some_iff.1 hz
          obtain ⟨x', hx', hr⟩ := zr_rep f3 w (RO A w m H) m H
          have : x' = x := by simp [zeroValue, typeInfo, hi, hx] at hx'; exact hx'.symm
          subst this
          have hs : i.size = z := by obtain ⟨i', hi', hs⟩ := szT_info f1; rw [hi] at hi'; injection hi' with hi'; rw [hi']; exact hs
          have hy : i.bytes = y := by simpa [byT, hi] using f2
          have hrun := run_make (P := P) w t e i x' (elT_und e3) hi hx k1 k2 l1 c1 g1 g2 (by rw [hy]; exact g3) (by omega)
          have hlc : l1.toNat ≤ c1.toNat := by omega
          have hsz : (madeCells x'.cells (c1.toNat * i.size)).size = c1.toNat * z := by rw [size_madeCells, hs]
          refine ⟨_, _, .slice (some ⟨w.heap.size, 0, none⟩) l1.toNat c1.toNat, .inl ?_, .o _ _ (by simpa using hlt) hlc ?_ (fun k hk => ?_), hH.moved e 1 ((List.replicate l1.toNat zs).flatten) (madeCells x'.cells (c1.toNat * i.size)) hb (by omega) ?_ ?_, Keep.moved hH _ hb (by show kb.g < 1; omega)⟩
          · simp [execOp, ho, rep_i hl, rep_i hc, hrun]
          · simp only [maxLen]; omega
          · rw [List.getElem?_set_self hlt] at hk
            injection hk with hk
            subst hk
            refine ⟨Nat.le_refl _, fun _ _ => .inr (.inr ⟨w.heap.size, _, at_self _ _ _, rfl, heap_alloc_new w _, fun _ => ?_⟩)⟩
            have : P.cellsOf e = z := by simp [Program.cellsOf, hi, hs]
            show 0 + c1.toNat * P.cellsOf e ≤ _
            rw [this, hsz]
            omega
          · rw [length_flat, hsz, g5]; exact Nat.mul_le_mul_right _ hlc
          · rw [hs, ← g5]; exact zeros_get hr (by omega) _ _ hlc
        · cases h
      · cases h
    · cases h
theorem opW_out {s : St} {a : Act} {w : World} {m : Nat → Option Nat} (hmem : RepH P A w m s.h) (hev : ∀ x, RepV P w (RO A w m s.h) m s.h (ev s.t x) (a.eval x)) (o : Oper) {K : V → Heap → Prop} (hK : OpW P A o s K) {Q : Exit → Act → World → Prop} {next : Act → World → Prop}
    (hn : ∀ v H' x w' m', K v H' → Out P A w m s.h v H' x w' m' → next (a.put o.dst x) w') : o.wp P a w next Q := by
  have plain : ∀ op, o.op = op → onS (stp P (ev s.t) op s.h) K → o.wp P a w next Q := by
    intro op ho hs
    unfold onS at hs
    split at hs
    · rename_i c v H' hst
      rw [← ho] at hst
      obtain ⟨m', w', x, hr, hout⟩ := stp_yes (ρ' := a.eval) hmem hev o hst hs.1
      unfold Oper.wp
      rcases hr with hr | ⟨hr, rfl⟩
      · rw [hr]; exact hn _ _ _ _ _ hs.2 hout
      · rw [hr]; exact hn _ _ _ _ _ hs.2 hout
    · exact hs.elim
  unfold OpW at hK
  split at hK
  · rename_i f as ts ho
    unfold callW at hK
    split at hK
    · rename_i fid fa fc hf
      have hfe := hev f
      rw [hf] at hfe
      generalize hy : a.eval f = y at hfe
      cases hfe with
      | f fas fcs e1 e2 e3 e4 =>
        have hargs : RepL P w (RO A w m s.h) m s.h (fa ++ as.toList.map (ev s.t) ++ fc) (fas ++ as.map a.eval ++ fcs) := RepL.append (RepL.append ⟨e1, e3⟩ (map_rep hev as)) ⟨e2, e4⟩
        obtain ⟨fn, g1, g2, g3⟩ := hK w m _ hmem hargs
        unfold Oper.wp
        have hrun : (execOp a.eval o).run P w = (callFunc fid (fas ++ as.map a.eval ++ fcs)).run P w := by
          simp [execOp, ho, resolve, hy, Deferred.ofValue, invoke]
        rw [hrun]
        rcases g3 with ⟨g3, g4⟩ | ⟨v, w', g3, r, H', m', g5, g6⟩
        · have hc : (callFunc fid (fas ++ as.map a.eval ++ fcs)).run P w = .ok (.enter fid (fas ++ as.map a.eval ++ fcs)) w := by
            simp only [callFunc, Sem.run_bind, run_program, Result.andThen_ok, g1, g2, g3, Bool.false_eq_true, if_false, Sem.run_pure]
          rw [hc]
          refine Calls.mono g4 fun e w' ⟨v, he, r, H', m', g5, g6⟩ => ?_
          subst he
          exact hn _ _ _ _ _ g5 g6
        · rw [g3]
          exact hn _ _ _ _ _ g5 g6
    · exact hK.elim
  · exact plain _ rfl hK
/-- A call, an operation, or one that makes at a block laid out ahead. -/
def OpX (P : Program) (A : Amb) (pb : Option Nat) (o : Oper) (s : St) (K : V → Heap → Prop) : Prop := match pb with | none => OpW P A o s K | some b => onS (stpP P b (ev s.t) o.op s.h) K
theorem opX_out {pb : Option Nat} {s : St} {a : Act} {w : World} {m : Nat → Option Nat} (hmem : RepH P A w m s.h) (hev : ∀ x, RepV P w (RO A w m s.h) m s.h (ev s.t x) (a.eval x)) (o : Oper) {K : V → Heap → Prop} (hK : OpX P A pb o s K) {Q : Exit → Act → World → Prop} {next : Act → World → Prop}
    (hn : ∀ v H' x w' m', K v H' → Out P A w m s.h v H' x w' m' → next (a.put o.dst x) w') : o.wp P a w next Q := by
  cases pb with
  | none => exact opW_out hmem hev o hK hn
  | some b =>
    have hs : onS (stpP P b (ev s.t) o.op s.h) K := hK
    unfold onS at hs
    split at hs
    · rename_i c v H' hst
      obtain ⟨m', w', x, hr, hout⟩ := stpP_yes (ρ' := a.eval) hmem hev o hst hs.1
      unfold Oper.wp
      rcases hr with hr | ⟨hr, rfl⟩
      · rw [hr]; exact hn _ _ _ _ _ hs.2 hout
      · rw [hr]; exact hn _ _ _ _ _ hs.2 hout
    · exact hs.elim
/-- A block that nobody writes any more. -/
theorem Keep.kill {w : World} {m : Nat → Option Nat} {H : Heap} {b : Nat} {k : Blk} (hb : H[b]? = some k) : Keep w m H w m (H.set b { k with live := false }) := by
  refine ⟨rfl, rfl, ⟨rfl, Nat.le_refl _⟩, Nat.le_refl _, fun _ _ _ => rfl, ?_, by simp, fun b2 k2 k2' h h' => ?_⟩
  · rintro p ⟨b2, k2, h1, h2, h3⟩
    by_cases e : b2 = b
    · subst e
      rw [List.getElem?_set_self (List.getElem?_eq_some_iff.1 hb).1] at h1
      injection h1 with h1
      subst h1
      cases h2
    · rw [List.getElem?_set_ne (Ne.symm e)] at h1
      exact .inl ⟨b2, k2, h1, h2, h3⟩
  · by_cases e : b2 = b
    · subst e
      obtain rfl : k2 = k := Option.some.inj (h.symm.trans hb)
      rw [List.getElem?_set_self (List.getElem?_eq_some_iff.1 hb).1] at h'
      injection h' with h'
      subst h'
      exact ⟨Nat.le_refl _, fun _ hl => by cases hl⟩
    · rw [List.getElem?_set_ne (Ne.symm e)] at h'
      obtain rfl : k2 = k2' := Option.some.inj (h.symm.trans h')
      exact ⟨Nat.le_refl _, fun _ hl2 => ⟨hl2, rfl, rfl, fun q2 cur2 _ hc2 => ⟨cur2, hc2, rfl⟩⟩⟩
theorem RepH.kill {w : World} {m : Nat → Option Nat} {H : Heap} (hH : RepH P A w m H) {b : Nat} {k : Blk} (hb : H[b]? = some k) : RepH P A w m (H.set b { k with live := false }) := by
  refine hH.put (b0 := b) (k0 := { k with live := false }) (Keep.kill hb) (fun b2 h2 => List.getElem?_set_ne (Ne.symm h2)) (List.getElem?_set_self (List.getElem?_eq_some_iff.1 hb).1) (fun _ _ => rfl) (fun h => by cases h) (fun h => by cases h) (fun _ _ _ _ _ _ _ => rfl)
theorem kill_out {w0 : World} {m0 : Nat → Option Nat} {H0 : Heap} {w : World} {m : Nat → Option Nat} {H : Heap} {b g off l z : Nat} {k : Blk} {x : Value} (h : Out P A w0 m0 H0 (.o b g off l) H x w m) (hk : H.at b g = some k) (hz : szT P k.t = some z) :
    Out P A w0 m0 H0 (.sl false l ((k.cs.drop off).take (l * z))) (H.set b { k with live := false }) x w m := by
  obtain ⟨a1, a2, a3⟩ := at_some hk
  refine ⟨?_, h.mem.kill a1, h.keep.trans (Keep.kill a1)⟩
  obtain ⟨A', c, rfl, hlc, hmx, hd⟩ := o_rep h.rep hk
  rcases hd with ⟨d1, d2, d3, d4⟩ | ⟨d, d'⟩ | ⟨q, cur, d1, d2, d3, d4⟩
  · subst d1; subst d2; subst d3
    rw [Nat.zero_mul, List.take_zero]
    exact .sl _ _ (fun _ => undef) (Nat.le_refl _) (fun e => by cases e) (fun j v hj => by simp at hj) (fun j v hj => by simp at hj) (fun _ => rfl)
  · subst d
    rw [Nat.zero_mul, List.take_zero]
    exact .sl _ _ (fun _ => undef) hlc (fun e => by cases e) (fun j v hj => by simp at hj) (fun j v hj => by simp at hj) (fun _ => rfl)
  · subst d2
    have hc := h.mem.cells hk d1
    have hg : ∀ (j : Nat) v, ((k.cs.drop off).take (l * z))[j]? = some v → k.cs[off + j]? = some v := fun j v hj => by
      rw [List.getElem?_take] at hj
      split at hj
      · rwa [List.getElem?_drop] at hj
      · cases hj
    have hro : RO A w m (H.set b { k with live := false }) q := by
      refine ⟨h.mem.lt a1 a2 d1, ?_, h.mem.own2 b q k a1 a2 d1⟩
      rintro ⟨b2, k2, h1, h2, h3⟩
      by_cases e : b2 = b
      · subst e
        rw [List.getElem?_set_self (List.getElem?_eq_some_iff.1 a1).1] at h1
        injection h1 with h1
        subst h1
        cases h2
      · rw [List.getElem?_set_ne (Ne.symm e)] at h1
        exact e (h.mem.inj b2 b k2 k q h1 h2 a1 a2 h3 d1)
    refine .sl _ _ (fun j => (w.cell? ⟨q, 0 + (off + j), none⟩).getD undef) hlc (fun e => by cases e) (fun j v hj => ?_) (fun j v hj => ?_) (fun e => by cases e)
    · obtain ⟨y, hy, _⟩ := hc _ v (hg j v hj)
      refine ⟨_, rfl, hro, ?_⟩
      rw [Addr.add_lit]
      simp only [hy, Option.getD_some]
      rw [Nat.zero_add] at hy
      exact hy
    · obtain ⟨y, hy, hr⟩ := hc _ v (hg j v hj)
      simp only [hy, Option.getD_some]
      exact hr.keep (Keep.kill a1)
theorem kOp_wp (h : RepS P A N w0 m0 H0 w m s a) {fz : List Nat} {o : Oper} (hd : ∀ k, o.dst = some k → k < N) {next : St → Prop} {v : V} {H' : Heap} {x : Value} {w' : World} {m' : Nat → Option Nat} (hk : kOp P fz next s.t o.dst v H') (ho : Out P A w m s.h v H' x w' m') {G : Act → World → Prop}
    (hG : ∀ s' m', next s' → RepS P A N w0 m0 H0 w' m' s' (a.put o.dst x) → G (a.put o.dst x) w') : G (a.put o.dst x) w' := by
  unfold kOp onV fzO at hk
  split at hk
  · rename_i v2 h2 hz
    split at hz
    · unfold fzV at hz
      split at hz
      · split at hz
        · split at hz
          · rename_i hsz
            injection hz with hz
            injection hz with e1 e2
            subst e1; subst e2
            exact hG _ _ hk (h.put (kill_out ho (by assumption) hsz) hd)
          · cases hz
        · cases hz
      · injection hz with hz
        injection hz with e1 e2
        subst e1; subst e2
        have ho2 : Out P A w m s.h (.sl false 0 []) H' x w' m' := ⟨by rw [rep_ns ho.rep]; exact .sl _ _ (fun _ => undef) (Nat.le_refl _) (fun e => by cases e) (fun j v hj => by simp at hj) (fun j v hj => by simp at hj) (fun _ => rfl), ho.mem, ho.keep⟩
        exact hG _ _ hk (h.put ho2 hd)
      · injection hz with hz
        injection hz with e1 e2
        subst e1; subst e2
        exact hG _ _ hk (h.put ho hd)
      · cases hz
    · injection hz with hz
      injection hz with e1 e2
      subst e1; subst e2
      exact hG _ _ hk (h.put ho hd)
  · exact hk.elim
theorem opsW_wp {fz : List Nat} {ops : Array Oper} {Q : St → Prop} {Q' : Exit → Act → World → Prop} (hQ : ∀ s a w m, Q s → RepS P A N w0 m0 H0 w m s a → Q' .normal a w) : ∀ (l : List Oper) (s : St) (a : Act) (w : World) (m : Nat → Option Nat), (∀ o ∈ l, ∀ k, o.dst = some k → k < N) →
    OpsW P A fz ops l Q s → RepS P A N w0 m0 H0 w m s a → wpList P ops Q' l a w
  | [], s, a, w, m, _, h, hr => hQ s a w m h hr
  | o :: rest, s, a, w, m, hd, h, hr => by
    simp only [OpsW] at h
    unfold onG at h
    unfold wpList
    split at h
    · rename_i g hg
      rw [gd_wanted hr hg]
      cases g with
      | true =>
        simp only [if_true] at h ⊢
        refine .inl (opW_out hr.mem hr.eval o h fun v H' x w' m' hk ho => ?_)
        exact kOp_wp hr (hd o (by simp)) hk ho fun s' m' hn hr' => opsW_wp hQ rest _ _ _ _ (fun o ho => hd o (by simp [ho])) hn hr'
      | false =>
        simp only [Bool.false_eq_true, if_false] at h ⊢
        exact opsW_wp hQ rest _ _ _ _ (fun o ho => hd o (by simp [ho])) h (hr.skip (hd o (by simp)))
    · exact h.elim
theorem Le.rep {n0 : Nat} {s' s : St} (hle : Le P n0 s' s) (hn : H0.length = n0) (h : RepS P A N w0 m0 H0 w m s a) : ∃ m', RepS P A N w0 m0 H0 w m' s' a := by
  obtain ⟨h0, hle⟩ := hle
  obtain ⟨m', h1, h2, h3, h4⟩ := hle A w m h.mem
  refine ⟨m', h1, h.defers, h.size, fun t => h3 t _ (h.slot t), ?_⟩
  have hk := h.keep
  exact ⟨hk.os, hk.tape, hk.output, hk.size, hk.block, fun q hq => hk.fresh q (h2 q hq), by omega, fun b k k' hb hb' => by
    obtain ⟨k2, a1, a2, a3⟩ := h4 b k' (by rw [← hn]; exact (List.getElem?_eq_some_iff.1 hb).1) hb'
    obtain ⟨b1, b2⟩ := hk.age b k k2 hb a1
    refine ⟨by omega, fun hg hl => ?_⟩
    obtain ⟨c1, c2, c3⟩ := a3 hl
    obtain ⟨d1, d2, d3, d4⟩ := b2 (by omega) c1
    exact ⟨d1, c2.trans d2, c3.trans d3, d4⟩⟩
end
end Go.Proofs.E
end
/- The machine of values: regions whose order is open. Of no function. -/
section
set_option linter.unusedVariables false
set_option linter.unusedSimpArgs false
set_option linter.unusedSectionVars false
namespace Go.Proofs.E
open Go
set_option linter.unusedVariables false
set_option linter.unusedSimpArgs false
section
variable {P : Program} {A : Amb} {N : Nat}
theorem stp_congr {ρ ρ2 : Operand → V} {op : Op} {H : Heap} (h : ∀ x ∈ op.operands, ρ x = ρ2 x) : stp P ρ op H = stp P ρ2 op H := by
  have pairs : ∀ ps : Array (Nat × Operand), (∀ x ∈ (ps.toList.map (·.2)).toArray, ρ x = ρ2 x) → (ps.toList.map fun (i, x) => (i, ρ x)) = (ps.toList.map fun (i, x) => (i, ρ2 x)) := fun ps hp =>
    List.map_congr_left fun p hm => by
      obtain ⟨i, x⟩ := p
      show (i, ρ x) = (i, ρ2 x)
      rw [hp x (List.mem_toArray.2 (List.mem_map.2 ⟨(i, x), hm, rfl⟩))]
  have arr : ∀ ps : Array Operand, (∀ x ∈ ps, ρ x = ρ2 x) → ps.toList.map ρ = ps.toList.map ρ2 := fun ps hp => List.map_congr_left fun x hm => hp x (by simpa using hm)
  cases op <;> simp only [Op.operands] at h <;> simp only [stp]
  case build t ps => rw [pairs ps h]
  case buildSlice t n ps => rw [pairs ps h]
  case makeFunc fn a c => rw [arr a fun x hx => h x (by simp [hx]), arr c fun x hx => h x (by simp [hx])]
  case slice t x lo hi mx => cases lo <;> cases hi <;> cases mx <;> simp_all
  case call c =>
    obtain ⟨callee, as, ts⟩ := c
    cases callee <;> simp only
    case builtin b => rw [arr as fun x hx => h x (by simp [Call.operands, hx])]
  all_goals (first | rfl | (simp_all; done))
def dstAt (ops : Array Oper) (i : Nat) : Option Nat := (ops[i]?).bind (·.dst)
/-- The slots behind operations k, .., k + j - 1 in order. -/
def Tf (ops : Array Oper) (vs : Nat → V) (t : Tm) (k : Nat) : Nat → Tm
  | 0 => t
  | j + 1 => putV (Tf ops vs t k j) (dstAt ops (k + j)) (vs (k + j))
def OkAt (P : Program) (A : Amb) (ops : Array Oper) (H : Heap) (t : Tm) (i : Nat) (v : V) : Prop :=
  ∃ o g, ops[i]? = some o ∧ gdV ops t o.guard = some g ∧ if g = true then OpQ P A o ⟨t, H⟩ (· = v) else v = .tup []
theorem opQ_val {o : Oper} {s : St} {K : V → Prop} (h : OpQ P A o s K) : ∃ v, K v ∧ OpQ P A o s (· = v) := by
  unfold OpQ at h ⊢
  split at h
  · rename_i f as ts ho
    unfold callQ at h ⊢
    split at h
    · obtain ⟨v, h1, h2⟩ := h
      exact ⟨v, h2, v, h1, rfl⟩
    · exact h.elim
  · rename_i op hop
    unfold onS at h ⊢
    split at h
    · rename_i c v h' hs
      obtain ⟨h1, h2, h3⟩ := h
      exact ⟨v, h3, h1, h2, rfl⟩
    · exact h.elim
theorem Tf_shift (ops : Array Oper) (vs : Nat → V) (t : Tm) (k : Nat) : ∀ j, Tf ops vs (putV t (dstAt ops k) (vs k)) (k + 1) j = Tf ops vs t k (j + 1)
  | 0 => rfl
  | j + 1 => by
    show putV (Tf ops vs _ (k + 1) j) (dstAt ops (k + 1 + j)) (vs (k + 1 + j)) = putV (Tf ops vs t k (j + 1)) (dstAt ops (k + (j + 1))) (vs (k + (j + 1)))
    rw [Tf_shift ops vs t k j, show k + 1 + j = k + (j + 1) by omega]
theorem Tf_congr (ops : Array Oper) {vs vs' : Nat → V} (t : Tm) (k : Nat) : ∀ j, (∀ i, k ≤ i → i < k + j → vs i = vs' i) → Tf ops vs t k j = Tf ops vs' t k j
  | 0, _ => rfl
  | j + 1, h => by
    show putV (Tf ops vs t k j) _ _ = putV (Tf ops vs' t k j) _ _
    rw [Tf_congr ops t k j fun i h1 h2 => h i h1 (by omega), h (k + j) (by omega) (by omega)]
theorem opsQ_run {ops : Array Oper} {H : Heap} {K : St → Prop} : ∀ (l : List Oper) (k : Nat) (t : Tm), (∀ j, j < l.length → l[j]? = ops[k + j]?) → OpsQ P A ops l K ⟨t, H⟩ →
    ∃ vs : Nat → V, (∀ j, j < l.length → OkAt P A ops H (Tf ops vs t k j) (k + j) (vs (k + j))) ∧ K ⟨Tf ops vs t k l.length, H⟩
  | [], k, t, _, h => ⟨fun _ => .any, fun j hj => absurd hj (Nat.not_lt_zero _), h⟩
  | o :: rest, k, t, hl, h => by
    have h0 : ops[k]? = some o := by simpa using (hl 0 (by simp)).symm
    have hd : dstAt ops k = o.dst := by simp [dstAt, h0]
    simp only [OpsQ] at h
    unfold onG at h
    have hl' : ∀ j, j < rest.length → rest[j]? = ops[k + 1 + j]? := fun j hj => by
      have := hl (j + 1) (by simp; omega)
      rw [show k + 1 + j = k + (j + 1) by omega]
      simpa using this
    have fin : ∀ v, OkAt P A ops H t k v → OpsQ P A ops rest K ⟨putV t o.dst v, H⟩ → ∃ vs : Nat → V, (∀ j, j < (o :: rest).length → OkAt P A ops H (Tf ops vs t k j) (k + j) (vs (k + j))) ∧ K ⟨Tf ops vs t k (o :: rest).length, H⟩ := by
      intro v hv hrest
      obtain ⟨vs, h1, h2⟩ := opsQ_run rest (k + 1) _ hl' hrest
      obtain ⟨vs', hvs⟩ : ∃ vs' : Nat → V, vs' = fun i => if i = k then v else vs i := ⟨_, rfl⟩
      have hk : vs' k = v := by rw [hvs]; simp
      have hne : ∀ i, i ≠ k → vs' i = vs i := fun i hi => by rw [hvs]; simp [hi]
      have hT : ∀ j, Tf ops vs' t k (j + 1) = Tf ops vs (putV t o.dst v) (k + 1) j := fun j => by
        rw [← Tf_shift, hd, hk]
        exact Tf_congr ops _ _ _ fun i a b => hne i (by omega)
      refine ⟨vs', fun j hj => ?_, ?_⟩
      · cases j with
        | zero => rw [Nat.add_zero, hk]; exact hv
        | succ j =>
          rw [hT, hne _ (by omega), show k + (j + 1) = k + 1 + j by omega]
          exact h1 j (by simpa using hj)
      · rw [List.length_cons, hT]
        exact h2
    split at h
    · rename_i g hg
      cases g with
      | true =>
        simp only [if_true] at h
        obtain ⟨v, hv1, hv2⟩ := opQ_val h
        exact fin v ⟨o, true, h0, hg, by simpa using hv2⟩ hv1
      | false =>
        simp only [Bool.false_eq_true, if_false] at h
        exact fin (.tup []) ⟨o, false, h0, hg, by simp⟩ h
    · exact h.elim
theorem lk_Tf_ne (ops : Array Oper) (vs : Nat → V) (t : Tm) (n : Nat) : ∀ i, (∀ j, j < i → dstAt ops j ≠ some n) → lk (Tf ops vs t 0 i) n = lk t n
  | 0, _ => rfl
  | i + 1, h => by
    show lk (putV (Tf ops vs t 0 i) (dstAt ops (0 + i)) _) n = _
    rw [lk_put, Nat.zero_add, if_neg (h i (by omega)), lk_Tf_ne ops vs t n i fun j hj => h j (by omega)]
theorem lk_Tf_eq (ops : Array Oper) (vs : Nat → V) (t : Tm) (n j : Nat) (hj : dstAt ops j = some n) : ∀ i, j < i → (∀ k, k < i → dstAt ops k = some n → k = j) → lk (Tf ops vs t 0 i) n = vs j
  | 0, h, _ => absurd h (Nat.not_lt_zero _)
  | i + 1, h, hu => by
    show lk (putV (Tf ops vs t 0 i) (dstAt ops (0 + i)) (vs (0 + i))) n = _
    rw [lk_put, Nat.zero_add]
    by_cases e : dstAt ops i = some n
    · rw [if_pos e, hu i (by omega) e]
    · rw [if_neg e]
      have : j < i := by
        rcases Nat.lt_or_ge j i with h1 | h1
        · exact h1
        · have : j = i := by omega
          rw [this] at hj
          exact absurd hj e
      exact lk_Tf_eq ops vs t n j hj i this fun k hk => hu k (by omega)
/-- An operation at a heap, and what it leaves. -/
def OkTo (P : Program) (A : Amb) (ops : Array Oper) (H : Heap) (t : Tm) (i : Nat) (v : V) (H' : Heap) : Prop :=
  ∃ o g, ops[i]? = some o ∧ gdV ops t o.guard = some g ∧ if g = true then ∃ pb, OpX P A pb o ⟨t, H⟩ (fun r h => r = v ∧ h = H') else v = .tup [] ∧ H' = H
theorem onS_val {x : Option (Prop × V × Heap)} {H : Heap} {K : V → Prop} (h : onS x (kQ H K)) : ∃ v, K v ∧ onS x (kQ H (· = v)) := by
  unfold onS at h ⊢
  split at h
  · rename_i c v h'
    obtain ⟨h1, h2, h3⟩ := h
    exact ⟨v, h3, h1, h2, rfl⟩
  · exact h.elim
theorem onS_kQ {x : Option (Prop × V × Heap)} {H : Heap} {v : V} (h : onS x (kQ H (· = v))) : onS x (fun r h => r = v ∧ h = H) := by
  unfold onS at h ⊢
  split at h
  · exact ⟨h.1, h.2.2, h.2.1⟩
  · exact h.elim
theorem onS_opW {o : Oper} {t : Tm} {H : Heap} {K : V → Heap → Prop} (h : onS (stp P (ev t) o.op H) K) : OpW P A o ⟨t, H⟩ K := by
  unfold OpW
  split
  · rename_i f as ts ho
    rw [ho] at h
    exact h.elim
  · exact h
theorem opQ_opW {o : Oper} {s : St} {v : V} (h : OpQ P A o s (· = v)) : OpW P A o s fun r h => r = v ∧ h = s.h := by
  unfold OpQ at h
  unfold OpW
  split at h
  · unfold callQ at h
    unfold callW
    split at h
    · obtain ⟨u, h1, h2⟩ := h
      subst h2
      exact h1
    · exact h.elim
  · unfold onS at h ⊢
    split at h
    · obtain ⟨h1, h2, h3⟩ := h
      exact ⟨h1, h3, h2⟩
    · exact h.elim
theorem OkAt.to {ops : Array Oper} {H : Heap} {t : Tm} {i : Nat} {v : V} (h : OkAt P A ops H t i v) : OkTo P A ops H t i v H := by
  obtain ⟨o, g, h1, h2, h3⟩ := h
  refine ⟨o, g, h1, h2, ?_⟩
  cases g
  · exact ⟨by simpa using h3, rfl⟩
  · exact ⟨none, opQ_opW (by simpa using h3)⟩
theorem wrS_opX {pb : Option Nat} {o : Oper} {t : Tm} {H : Heap} {K : V → Heap → Prop} (h : onS (wrS P pb (ev t) o.op H) K) : OpX P A pb o ⟨t, H⟩ K := by
  cases pb with
  | none => exact onS_opW h
  | some b => exact h
theorem opM_val {o : Oper} {k : Nat} {a b c : Wr} {Hs : Bool → Bool → Bool → Heap} {x y z : Bool} {t : Tm} {K : V → Prop} (h : OpM P A o k a b c Hs x y z t K) : ∃ v, K v ∧ OpM P A o k a b c Hs x y z t (· = v) := by
  unfold OpM at h ⊢
  by_cases e : k = a.i
  · simp only [if_pos e] at h ⊢; exact onS_val h
  · simp only [if_neg e] at h ⊢
    by_cases e2 : k = b.i
    · simp only [if_pos e2] at h ⊢; exact onS_val h
    · simp only [if_neg e2] at h ⊢
      by_cases e3 : k = c.i
      · simp only [if_pos e3] at h ⊢; exact onS_val h
      · simp only [if_neg e3] at h ⊢; exact opQ_val h
def HsIn (k : Nat) (a b c : Wr) (Hs : Bool → Bool → Bool → Heap) (x y z : Bool) : Heap := if k = a.i then Hs false y z else if k = b.i then Hs x false z else if k = c.i then Hs x y false else Hs x y z
def HsOut (k : Nat) (a b c : Wr) (Hs : Bool → Bool → Bool → Heap) (x y z : Bool) : Heap := if k = a.i then Hs true y z else if k = b.i then Hs x true z else if k = c.i then Hs x y true else Hs x y z
theorem opM_opX {o : Oper} {k : Nat} {a b c : Wr} {Hs : Bool → Bool → Bool → Heap} {x y z : Bool} {t : Tm} {v : V} (h : OpM P A o k a b c Hs x y z t (· = v)) :
    ∃ pb, OpX P A pb o ⟨t, HsIn k a b c Hs x y z⟩ fun r h => r = v ∧ h = HsOut k a b c Hs x y z := by
  unfold OpM at h
  unfold HsIn HsOut
  by_cases e : k = a.i
  · simp only [if_pos e] at h ⊢; exact ⟨_, wrS_opX (onS_kQ h)⟩
  · simp only [if_neg e] at h ⊢
    by_cases e2 : k = b.i
    · simp only [if_pos e2] at h ⊢; exact ⟨_, wrS_opX (onS_kQ h)⟩
    · simp only [if_neg e2] at h ⊢
      by_cases e3 : k = c.i
      · simp only [if_pos e3] at h ⊢; exact ⟨_, wrS_opX (onS_kQ h)⟩
      · simp only [if_neg e3] at h ⊢; exact ⟨none, opQ_opW h⟩
theorem opsM_run {ops : Array Oper} {a b c : Wr} {Hs : Bool → Bool → Bool → Heap} {x y z : Bool} {t1 : Tm} : ∀ (l : List Oper) (k : Nat) (t : Tm), (∀ o ∈ l, o.guard = none) → (∀ j, j < l.length → l[j]? = ops[k + j]?) → OpsM P A ops a b c Hs x y z t1 l k ⟨t, []⟩ →
    ∃ vs : Nat → V, (∀ j, j < l.length → OkTo P A ops (HsIn (k + j) a b c Hs (x && !a.w.contains (k + j)) (y && !b.w.contains (k + j)) (z && !c.w.contains (k + j))) (Tf ops vs t k j) (k + j) (vs (k + j)) (HsOut (k + j) a b c Hs (x && !a.w.contains (k + j)) (y && !b.w.contains (k + j)) (z && !c.w.contains (k + j)))) ∧ (∀ j, j < l.length → dstAt ops (k + j) = none → vs (k + j) = .any) ∧ Tf ops vs t k l.length = t1
  | [], k, t, _, _, h => ⟨fun _ => .any, fun j hj => absurd hj (Nat.not_lt_zero _), fun j hj => absurd hj (Nat.not_lt_zero _), h⟩
  | o :: rest, k, t, hg0, hl, h => by
    have h0 : ops[k]? = some o := by simpa using (hl 0 (by simp)).symm
    have hd : dstAt ops k = o.dst := by simp [dstAt, h0]
    have hgd : gdV ops t o.guard = some true := by rw [hg0 o (List.mem_cons_self ..)]; rfl
    simp only [OpsM] at h
    rw [hgd] at h
    have hl' : ∀ j, j < rest.length → rest[j]? = ops[k + 1 + j]? := fun j hj => by
      have := hl (j + 1) (by simp; omega)
      rw [show k + 1 + j = k + (j + 1) by omega]
      simpa using this
    obtain ⟨v, hv1, hv2⟩ := opM_val (show OpM P A o k a b c Hs (x && !a.w.contains k) (y && !b.w.contains k) (z && !c.w.contains k) t _ from h)
    have hv : OkTo P A ops (HsIn k a b c Hs (x && !a.w.contains k) (y && !b.w.contains k) (z && !c.w.contains k)) t k v (HsOut k a b c Hs (x && !a.w.contains k) (y && !b.w.contains k) (z && !c.w.contains k)) := ⟨o, true, h0, hgd, by simpa using opM_opX hv2⟩
    obtain ⟨hvn, hv1⟩ := hv1
    obtain ⟨vs, h1, hn1, h2⟩ := opsM_run rest (k + 1) _ (fun o ho => hg0 o (List.mem_cons_of_mem _ ho)) hl' hv1
    obtain ⟨vs', hvs⟩ : ∃ vs' : Nat → V, vs' = fun i => if i = k then v else vs i := ⟨_, rfl⟩
    have hk : vs' k = v := by rw [hvs]; simp
    have hne : ∀ i, i ≠ k → vs' i = vs i := fun i hi => by rw [hvs]; simp [hi]
    have hT : ∀ j, Tf ops vs' t k (j + 1) = Tf ops vs (putV t o.dst v) (k + 1) j := fun j => by
      rw [← Tf_shift, hd, hk]
      exact Tf_congr ops _ _ _ fun i a b => hne i (by omega)
    refine ⟨vs', fun j hj => ?_, fun j hj hdn => ?_, ?_⟩
    · cases j with
      | zero => rw [Nat.add_zero, hk]; exact hv
      | succ j =>
        rw [hT, hne _ (by omega), show k + (j + 1) = k + 1 + j by omega]
        exact h1 j (by simpa using hj)
    · cases j with
      | zero => rw [Nat.add_zero, hk]; exact hvn (by rw [← hd]; simpa using hdn)
      | succ j =>
        rw [show k + (j + 1) = k + 1 + j by omega, hne _ (by omega)]
        exact hn1 j (by simpa using hj) (by rw [show k + 1 + j = k + (j + 1) by omega]; exact hdn)
    · rw [List.length_cons, hT]
      exact h2
theorem opL_val {o : Oper} {k : Nat} {W : List Wr} {Hs : (Nat → Bool) → Heap} {f : Nat → Bool} {t : Tm} {K : V → Prop} (h : OpL P A o k W Hs f t K) : ∃ v, K v ∧ OpL P A o k W Hs f t (· = v) := by
  unfold OpL at h ⊢
  cases e : W.find? (fun u => decide (u.i = k)) with
  | some u => simp only [e] at h ⊢; exact onS_val h
  | none => simp only [e] at h ⊢; exact opQ_val h
def HsInL (k : Nat) (W : List Wr) (Hs : (Nat → Bool) → Heap) (f : Nat → Bool) : Heap := match W.find? (fun u => decide (u.i = k)) with | some u => Hs (updF f k false) | none => Hs f
def HsOutL (k : Nat) (W : List Wr) (Hs : (Nat → Bool) → Heap) (f : Nat → Bool) : Heap := match W.find? (fun u => decide (u.i = k)) with | some u => Hs (updF f k true) | none => Hs f
theorem opL_opX {o : Oper} {k : Nat} {W : List Wr} {Hs : (Nat → Bool) → Heap} {f : Nat → Bool} {t : Tm} {v : V} (h : OpL P A o k W Hs f t (· = v)) :
    ∃ pb, OpX P A pb o ⟨t, HsInL k W Hs f⟩ fun r h => r = v ∧ h = HsOutL k W Hs f := by
  unfold OpL at h
  unfold HsInL HsOutL
  cases e : W.find? (fun u => decide (u.i = k)) with
  | some u => simp only [e] at h ⊢; exact ⟨_, wrS_opX (onS_kQ h)⟩
  | none => simp only [e] at h ⊢; exact ⟨none, opQ_opW h⟩
theorem opsL_run {ops : Array Oper} {W : List Wr} {Hs : (Nat → Bool) → Heap} {f : Nat → Bool} {t1 : Tm} : ∀ (l : List Oper) (k : Nat) (t : Tm), (∀ o ∈ l, o.guard = none) → (∀ j, j < l.length → l[j]? = ops[k + j]?) → OpsL P A ops W Hs f t1 l k ⟨t, []⟩ →
    ∃ vs : Nat → V, (∀ j, j < l.length → OkTo P A ops (HsInL (k + j) W Hs (mskF W (k + j) f)) (Tf ops vs t k j) (k + j) (vs (k + j)) (HsOutL (k + j) W Hs (mskF W (k + j) f))) ∧ (∀ j, j < l.length → dstAt ops (k + j) = none → vs (k + j) = .any) ∧ Tf ops vs t k l.length = t1
  | [], k, t, _, _, h => ⟨fun _ => .any, fun j hj => absurd hj (Nat.not_lt_zero _), fun j hj => absurd hj (Nat.not_lt_zero _), h⟩
  | o :: rest, k, t, hg0, hl, h => by
    have h0 : ops[k]? = some o := by simpa using (hl 0 (by simp)).symm
    have hd : dstAt ops k = o.dst := by simp [dstAt, h0]
    have hgd : gdV ops t o.guard = some true := by rw [hg0 o (List.mem_cons_self ..)]; rfl
    simp only [OpsL] at h
    rw [hgd] at h
    have hl' : ∀ j, j < rest.length → rest[j]? = ops[k + 1 + j]? := fun j hj => by
      have := hl (j + 1) (by simp; omega)
      rw [show k + 1 + j = k + (j + 1) by omega]
      simpa using this
    obtain ⟨v, hv1, hv2⟩ := opL_val (show OpL P A o k W Hs (mskF W k f) t _ from h)
    have hv : OkTo P A ops (HsInL k W Hs (mskF W k f)) t k v (HsOutL k W Hs (mskF W k f)) := ⟨o, true, h0, hgd, by simpa using opL_opX hv2⟩
    obtain ⟨hvn, hv1⟩ := hv1
    obtain ⟨vs, h1, hn1, h2⟩ := opsL_run rest (k + 1) _ (fun o ho => hg0 o (List.mem_cons_of_mem _ ho)) hl' hv1
    obtain ⟨vs', hvs⟩ : ∃ vs' : Nat → V, vs' = fun i => if i = k then v else vs i := ⟨_, rfl⟩
    have hk : vs' k = v := by rw [hvs]; simp
    have hne : ∀ i, i ≠ k → vs' i = vs i := fun i hi => by rw [hvs]; simp [hi]
    have hT : ∀ j, Tf ops vs' t k (j + 1) = Tf ops vs (putV t o.dst v) (k + 1) j := fun j => by
      rw [← Tf_shift, hd, hk]
      exact Tf_congr ops _ _ _ fun i _ _ => hne i (by omega)
    refine ⟨vs', fun j hj => ?_, fun j hj hdn => ?_, ?_⟩
    · cases j with
      | zero => rw [Nat.add_zero, hk]; exact hv
      | succ j =>
        rw [hT, hne _ (by omega), show k + (j + 1) = k + 1 + j by omega]
        exact h1 j (by simpa using hj)
    · cases j with
      | zero => rw [Nat.add_zero, hk]; exact hvn (by rw [← hd]; simpa using hdn)
      | succ j =>
        rw [show k + (j + 1) = k + 1 + j by omega, hne _ (by omega)]
        exact hn1 j (by simpa using hj) (by rw [show k + 1 + j = k + (j + 1) by omega]; exact hdn)
    · rw [List.length_cons, hT]
      exact h2
theorem Tf_inj {ops : Array Oper} {vs vs' : Nat → V} {t : Tm} : ∀ n, (∀ j, j < n → dstAt ops j = none → vs j = vs' j) → Tf ops vs t 0 n = Tf ops vs' t 0 n → ∀ j, j < n → vs j = vs' j
  | 0, _, _, j, hj => absurd hj (Nat.not_lt_zero _)
  | n + 1, hd, h, j, hj => by
    have h : putV (Tf ops vs t 0 n) (dstAt ops (0 + n)) (vs (0 + n)) = putV (Tf ops vs' t 0 n) (dstAt ops (0 + n)) (vs' (0 + n)) := h
    rw [Nat.zero_add] at h
    cases hdn : dstAt ops n with
    | none =>
      rw [hdn] at h
      rcases Nat.lt_or_ge j n with hlt | hge
      · exact Tf_inj n (fun j hj => hd j (by omega)) h j hlt
      · obtain rfl : j = n := by omega
        exact hd j (by omega) hdn
    | some d =>
      rw [hdn] at h
      simp only [putV, List.cons.injEq, Prod.mk.injEq, true_and] at h
      rcases Nat.lt_or_ge j n with hlt | hge
      · exact Tf_inj n (fun j hj => hd j (by omega)) h.2 j hlt
      · obtain rfl : j = n := by omega
        exact h.1
structure Dep (ops : Array Oper) (n : Nat) : Prop where
  le : n ≤ ops.size
  low : ∀ i o, i < n → ops[i]? = some o → ∀ e ∈ o.after, Region.binds .any e = true → e.on < i
  uniq : ∀ i j d, i < n → j < n → dstAt ops i = some d → dstAt ops j = some d → i = j
  dep : ∀ i j o d, i < n → j < n → j ≠ i → ops[i]? = some o → dstAt ops j = some d → d ∈ o.looksAt ops → (j < i ∧ Region.waitsFor .any ops i j = true) ∨ (i < j ∧ Region.waitsFor .any ops j i = true)
theorem dep_of {ops : Array Oper} {n : Nat} (hn : n ≤ ops.size) (h : depOk ops n = true) : Dep ops n := by
  have key : ∀ i o, i < n → ops[i]? = some o → ((o.after.all fun e => !Region.binds .any e || decide (e.on < i)) = true ∧ ∀ j oj d, j < n → ops[j]? = some oj → oj.dst = some d →
      (j = i ∨ (o.dst ≠ some d ∧ (d ∉ o.looksAt ops ∨ (j < i ∧ Region.waitsFor .any ops i j = true) ∨ (i < j ∧ Region.waitsFor .any ops j i = true))))) := by
    intro i o hi ho
    have h1 := List.all_eq_true.1 h i (List.mem_range.2 hi)
    rw [ho] at h1
    simp only [Bool.and_eq_true] at h1
    refine ⟨h1.1, fun j oj d hj hoj hd => ?_⟩
    have h2 := List.all_eq_true.1 h1.2 j (List.mem_range.2 hj)
    rw [hoj] at h2
    simp only [hd, Bool.or_eq_true, Bool.and_eq_true, decide_eq_true_eq, bne_iff_ne, ne_eq, Bool.not_eq_true', List.contains_eq_mem, decide_eq_false_iff_not] at h2
    rcases h2 with h2 | ⟨h2, (h3 | h3) | h3⟩
    · exact .inl h2
    · exact .inr ⟨h2, .inl h3⟩
    · exact .inr ⟨h2, .inr (.inl h3)⟩
    · exact .inr ⟨h2, .inr (.inr h3)⟩
  have at_ : ∀ j d, dstAt ops j = some d → ∃ oj, ops[j]? = some oj ∧ oj.dst = some d := fun j d hd => by
    unfold dstAt at hd
    exact Option.bind_eq_some_iff.1 hd
  refine ⟨hn, fun i o hi ho e he hb => ?_, fun i j d hi hj h1 h2 => ?_, fun i j o d hi hj hne ho hd hl => ?_⟩
  · have := Array.all_eq_true_iff_forall_mem.1 (key i o hi ho).1 e he
    simpa [hb] using this
  · obtain ⟨oi, a1, a2⟩ := at_ i d h1
    obtain ⟨oj, b1, b2⟩ := at_ j d h2
    rcases (key i oi hi a1).2 j oj d hj b1 b2 with e | ⟨e, _⟩
    · exact e.symm
    · exact absurd a2 e
  · obtain ⟨oj, b1, b2⟩ := at_ j d hd
    rcases (key i o hi ho).2 j oj d hj b1 b2 with e | ⟨_, e | e⟩
    · exact absurd e hne
    · exact absurd hl e
    · exact e
end
end Go.Proofs.E
end
