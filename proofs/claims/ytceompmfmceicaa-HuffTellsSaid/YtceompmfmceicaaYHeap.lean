/- huff's heap: less, push, pop: walked by hand; huff.before is handed in as a hypothesis. -/
import Derived.Test.YtceompmfmceicaaYBase
import Derived.Test.YtceompmfmceicaaYRow
import Derived.Test.YtceompmfmceicaaMathAll
import Derived.Test.YtceompmfmceicaaWMore
import Derived.Deep.LoopGhost
import Derived.Shelf.RegionOpenPlain
namespace Go.Proofs.Ytceompmfmceicaa.Heap
open Go.RowKit Go.Shelf Go.Lib Go.Proofs Go.Proofs.YtceompmfmceicaaW.PrintWords Go.Proofs.MathHeap
set_option linter.unusedVariables false
set_option linter.unusedSimpArgs false

def thCells (t : Th) : List Value := [.int .i64 t.w, .int .i64 t.id, .int .i64 t.up]
def thAgg (t : Th) : Value := .agg #[.int .i64 t.w, .int .i64 t.id, .int .i64 t.up]
def tcells (T : List Th) : List Value := T.flatMap thCells
theorem tcells_length : ∀ T : List Th, (tcells T).length = T.length * 3
  | [] => rfl
  | t :: T => by
    show (_ :: _ :: _ :: tcells T).length = _
    simp only [List.length_cons, tcells_length T]
    omega
theorem tcells_get : ∀ (T : List Th) (x : Nat) (t : Th), T[x]? = some t → (tcells T)[x * 3]? = some (.int .i64 t.w) ∧ (tcells T)[x * 3 + 1]? = some (.int .i64 t.id) ∧ (tcells T)[x * 3 + 2]? = some (.int .i64 t.up)
  | [], x, t, h => by simp at h
  | q :: T, 0, t, h => by
    simp only [List.getElem?_cons_zero, Option.some.injEq] at h
    subst h
    exact ⟨rfl, rfl, rfl⟩
  | q :: T, x + 1, t, h => by
    rw [List.getElem?_cons_succ] at h
    have ih := tcells_get T x t h
    rw [show (x + 1) * 3 = x * 3 + 1 + 1 + 1 by omega]
    show (_ :: _ :: _ :: tcells T)[_]? = _ ∧ (_ :: _ :: _ :: tcells T)[_]? = _ ∧ (_ :: _ :: _ :: tcells T)[_]? = _
    simp only [List.getElem?_cons_succ]
    exact ih
theorem tcells_up : ∀ (T : List Th) (x : Nat) (t : Th) (u : Int), T[x]? = some t → (tcells T).set (x * 3 + 2) (.int .i64 u) = tcells (T.set x { t with up := u })
  | [], x, t, u, h => by simp at h
  | q :: T, 0, t, u, h => by
    simp only [List.getElem?_cons_zero, Option.some.injEq] at h
    subst h
    rfl
  | q :: T, x + 1, t, u, h => by
    rw [List.getElem?_cons_succ] at h
    have ih := tcells_up T x t u h
    rw [show (x + 1) * 3 + 2 = x * 3 + 2 + 1 + 1 + 1 by omega]
    show ((_ :: _ :: _ :: tcells T : List Value).set _ _) = (_ :: _ :: _ :: tcells (T.set x _) : List Value)
    simp only [List.set_cons_succ]
    rw [ih]
/-- The heap's cells: the row of things, 512 places, how many there are. -/
def hcells (v : Value) (L : Nat → Nat) (n : Nat) : Array Value := (v :: ((List.range 512).map fun i => Value.int .i64 (L i : Int)) ++ [Value.int .i64 (n : Int)]).toArray
theorem hcells_size (v : Value) (L : Nat → Nat) (n : Nat) : (hcells v L n).size = 514 := by simp [hcells]
theorem hcells_0 (v : Value) (L : Nat → Nat) (n : Nat) : (hcells v L n)[0]? = some v := by
  unfold hcells
  rw [List.getElem?_toArray]
  rfl
theorem hcells_l (v : Value) (L : Nat → Nat) (n i : Nat) (hi : i < 512) : (hcells v L n)[1 + i]? = some (.int .i64 (L i : Int)) := by
  unfold hcells
  rw [Nat.add_comm 1 i, List.getElem?_toArray, List.cons_append, List.getElem?_cons_succ, List.getElem?_append_left (by simp; exact hi), List.getElem?_map, List.getElem?_range hi]
  rfl
theorem hcells_n (v : Value) (L : Nat → Nat) (n : Nat) : (hcells v L n)[513]? = some (.int .i64 (n : Int)) := by
  unfold hcells
  rw [List.getElem?_toArray, List.getElem?_append_right (by simp)]
  simp
theorem hcells_ext (v : Value) (L : Nat → Nat) (n : Nat) (cs : Array Value) (hs : cs.size = 514) (h0 : cs[0]? = some v) (hl : ∀ i, i < 512 → cs[1 + i]? = some (.int .i64 (L i : Int))) (hn : cs[513]? = some (.int .i64 (n : Int))) : cs = hcells v L n := by
  apply Array.ext_getElem?
  intro j
  have hs' := hcells_size v L n
  rcases Nat.lt_or_ge j 514 with hj | hj
  · by_cases c0 : j = 0
    · subst c0; rw [h0, hcells_0]
    · by_cases c1 : j = 513
      · subst c1; rw [hn, hcells_n]
      · obtain ⟨i, rfl⟩ : ∃ i, j = 1 + i := ⟨j - 1, by omega⟩
        rw [hl i (by omega), hcells_l v L n i (by omega)]
  · rw [Array.getElem?_eq_none (by omega), Array.getElem?_eq_none (by omega)]
theorem hcells_set_l (v : Value) (L : Nat → Nat) (n i x : Nat) (hi : i < 512) : (hcells v L n).setIfInBounds (1 + i) (.int .i64 (x : Int)) = hcells v (upd L i x) n := by
  refine hcells_ext _ _ _ _ (by rw [Array.size_setIfInBounds, hcells_size]) ?_ (fun k hk => ?_) ?_
  · rw [Array.getElem?_setIfInBounds, if_neg (by omega), hcells_0]
  · rw [Array.getElem?_setIfInBounds]
    unfold upd
    by_cases e : k = i
    · subst e
      rw [if_pos rfl, if_pos rfl, if_pos (by rw [hcells_size]; omega)]
    · rw [if_neg (by omega), if_neg e, hcells_l v L n k hk]
  · rw [Array.getElem?_setIfInBounds, if_neg (by omega), hcells_n]
theorem hcells_set_n (v : Value) (L : Nat → Nat) (n m : Nat) : (hcells v L n).setIfInBounds 513 (.int .i64 (m : Int)) = hcells v L m := by
  refine hcells_ext _ _ _ _ (by rw [Array.size_setIfInBounds, hcells_size]) ?_ (fun k hk => ?_) ?_
  · rw [Array.getElem?_setIfInBounds, if_neg (by omega), hcells_0]
  · rw [Array.getElem?_setIfInBounds, if_neg (by omega), hcells_l v L n k hk]
  · rw [Array.getElem?_setIfInBounds, if_pos rfl, if_pos (by rw [hcells_size]; omega)]
theorem hcells_set_0 (v u : Value) (L : Nat → Nat) (n : Nat) : (hcells v L n).setIfInBounds 0 u = hcells u L n := by
  refine hcells_ext _ _ _ _ (by rw [Array.size_setIfInBounds, hcells_size]) ?_ (fun k hk => ?_) ?_
  · rw [Array.getElem?_setIfInBounds, if_pos rfl, if_pos (by rw [hcells_size]; omega)]
  · rw [Array.getElem?_setIfInBounds, if_neg (by omega), hcells_l v L n k hk]
  · rw [Array.getElem?_setIfInBounds, if_neg (by omega), hcells_n]
/-- The heap in memory: its block H, the things' row v. -/
structure Hp (base : Nat) (H : Nat) (v : Value) (T : List Th) (L : Nat → Nat) (n : Nat) (W : World) : Prop where
  hb : base ≤ H
  h : W.heap[H]? = some (.cells (hcells v L n) 56 (0, 0))
  o : W.ownsRow base 58 3 v T.length (tcells T)
  ne : v.ownBlock ≠ some H
theorem Hp.later {base H : Nat} {v : Value} {T : List Th} {L : Nat → Nat} {n : Nat} {W W' : World} (h : Hp base H v T L n W) (hb : Below W.heap.size W W') : Hp base H v T L n W' :=
  ⟨h.hb, (hb.block _ (Row.blk_lt h.h)).trans h.h, pw_own_below h.o hb, h.ne⟩
theorem Hp.set {base H : Nat} {v : Value} {T : List Th} {L L' : Nat → Nat} {n n' : Nat} {W : World} (h : Hp base H v T L n W) (j : Nat) (u : Value) (hs : (hcells v L n).setIfInBounds j u = hcells v L' n') : Hp base H v T L' n' (W.setCell ⟨H, j, none⟩ u) :=
  ⟨h.hb, by rw [Row.blk_set h.h, hs], own_setCell h.o (Ne.symm h.ne) u, h.ne⟩
theorem Hp.cell {base H : Nat} {v : Value} {T : List Th} {L : Nat → Nat} {n : Nat} {W : World} (h : Hp base H v T L n W) (i : Nat) (hi : i < 512) : W.cell? ⟨H, 1 + i, none⟩ = some (.int .i64 (L i : Int)) ∧ W.frozen? ⟨H, 1 + i, none⟩ = false := Row.cell_of h.h (hcells_l v L n i hi)
theorem Hp.cell0 {base H : Nat} {v : Value} {T : List Th} {L : Nat → Nat} {n : Nat} {W : World} (h : Hp base H v T L n W) : W.cell? ⟨H, 0, none⟩ = some v ∧ W.frozen? ⟨H, 0, none⟩ = false := Row.cell_of h.h (hcells_0 v L n)
theorem Hp.celln {base H : Nat} {v : Value} {T : List Th} {L : Nat → Nat} {n : Nat} {W : World} (h : Hp base H v T L n W) : W.cell? ⟨H, 513, none⟩ = some (.int .i64 (n : Int)) ∧ W.frozen? ⟨H, 513, none⟩ = false := Row.cell_of h.h (hcells_n v L n)
/-- Where a thing lies. -/
theorem Hp.thing {base H : Nat} {v : Value} {T : List Th} {L : Nat → Nat} {n : Nat} {W : World} (h : Hp base H v T L n W) {x : Nat} {t : Th} (ht : T[x]? = some t) :
    ∃ g cap, v = .slice (some ⟨g, 0, none⟩) T.length cap ∧ g ≠ H ∧ base ≤ g ∧ (∀ i u, (thCells t)[i]? = some u → W.cell? ⟨g, x * 3 + i, none⟩ = some u ∧ W.frozen? ⟨g, x * 3 + i, none⟩ = false) := by
  have hx := (List.getElem?_eq_some_iff.1 ht).1
  rcases h.o.2 with ⟨rfl, h0⟩ | ⟨g, cap, cur, rfl, hg, hc, hle, hm, hs, htk⟩
  · omega
  · refine ⟨g, cap, rfl, fun e => h.ne (by rw [e]; rfl), hg, fun i u hu => ?_⟩
    have h3 : i < 3 := by
      have := (List.getElem?_eq_some_iff.1 hu).1
      simpa [thCells] using this
    have hT : (tcells T)[x * 3 + i]? = some u := by
      obtain ⟨h1, h2, h4⟩ := tcells_get T x t ht
      match i, h3 with
      | 0, _ => rw [Nat.add_zero, h1]; exact hu
      | 1, _ => rw [h2]; exact hu
      | 2, _ => rw [h4]; exact hu
    refine Row.cell_of hc ?_
    rw [← htk, List.getElem?_take_of_lt (by omega), Array.getElem?_toList] at hT
    exact hT
def Bef : Prop := ∀ (a b : Th) (w : World), Calls Try.prog 50 #[thAgg a, thAgg b] w fun e w' => e = .returned (.bool (bef a b)) ∧ Below w.heap.size w w'
theorem mixed' : Try.prog.follows Departure.mixedOrders = true := by kernel_rfl
theorem cell_later {w1 w2 : World} (hb : Below w1.heap.size w1 w2) {a : Addr} {v : Value} (h : w1.cell? a = some v) : w2.cell? a = some v := (hb.cell (World.block_lt_of_cell? w1 a h)).trans h
theorem keep9 {W w1 w2 : World} {a1 a2 a3 a4 a5 a6 a7 a8 a9 : Addr} {v1 v2 v3 v4 v5 v6 v7 v8 v9 : Value} (hb : Below w1.heap.size w1 w2) (h : w1.cell? a1 = some v1 ∧ w1.cell? a2 = some v2 ∧ w1.cell? a3 = some v3 ∧ w1.cell? a4 = some v4 ∧ w1.cell? a5 = some v5 ∧ w1.cell? a6 = some v6 ∧ w1.cell? a7 = some v7 ∧ w1.cell? a8 = some v8 ∧ w1.cell? a9 = some v9 ∧ Hid (Below W.heap.size W w1)) : w2.cell? a1 = some v1 ∧ w2.cell? a2 = some v2 ∧ w2.cell? a3 = some v3 ∧ w2.cell? a4 = some v4 ∧ w2.cell? a5 = some v5 ∧ w2.cell? a6 = some v6 ∧ w2.cell? a7 = some v7 ∧ w2.cell? a8 = some v8 ∧ w2.cell? a9 = some v9 ∧ Hid (Below W.heap.size W w2) := by
  obtain ⟨h1, h2, h3, h4, h5, h6, h7, h8, h9, H⟩ := h
  exact ⟨cell_later hb h1, cell_later hb h2, cell_later hb h3, cell_later hb h4, cell_later hb h5, cell_later hb h6, cell_later hb h7, cell_later hb h8, cell_later hb h9, Lib.hid (H.out.trans (hb.mono H.out.size))⟩
set_option maxHeartbeats 8000000 in
set_option maxRecDepth 100000 in
theorem less_any (HB : Bef) {base H : Nat} {v : Value} {T : List Th} {L : Nat → Nat} {n : Nat} {W : World} (h : Hp base H v T L n W) (i j : Nat) (hi : i < 512) (hj : j < 512) (a b : Th) (ha : T[L i]? = some a) (hb : T[L j]? = some b) :
    Calls Try.prog 40 #[.pointer (some ⟨H, 0, none⟩), .int .i64 (i : Int), .int .i64 (j : Int)] W fun e w' => e = .returned (.bool (bef a b)) ∧ Below W.heap.size W w' := by
  have mixed := mixed'
  obtain ⟨g, cap, rfl, hg, _, hca⟩ := h.thing ha
  obtain ⟨g2, cap2, e2, _, _, hcb⟩ := h.thing hb
  obtain ⟨rfl, rfl⟩ : g2 = g ∧ cap2 = cap := by
    injection e2 with e3 _ e4
    injection e3 with e3
    injection e3 with e3
    exact ⟨e3.symm, e4.symm⟩
  clear e2
  have hT : L i < T.length := (List.getElem?_eq_some_iff.1 ha).1
  have hT2 : L j < T.length := (List.getElem?_eq_some_iff.1 hb).1
  have k0 := h.cell0.1
  have k1 := (h.cell i hi).1
  have k2 := (h.cell j hj).1
  have a0 := (hca 0 _ rfl).1; have a1 := (hca 1 _ rfl).1; have a2 := (hca 2 _ rfl).1
  have b0 := (hcb 0 _ rfl).1; have b1 := (hcb 1 _ rfl).1; have b2 := (hcb 2 _ rfl).1
  clear hca hcb
  have HBB := HB a b
  unfold thAgg at HBB
  generalize L i = x at *
  generalize L j = y at *
  generalize bef a b = r at *
  obtain ⟨aw, ai, au⟩ := a
  obtain ⟨bw, bi, bu⟩ := b
  simp only at a0 a1 a2 b0 b1 b2 HBB
  have hx : (x : Int) < (T.length : Int) := by omega
  have hy : (y : Int) < (T.length : Int) := by omega
  have hx0 : (0 : Int) ≤ (x : Int) := by omega
  have hy0 : (0 : Int) ≤ (y : Int) := by omega
  have hi1 : (i : Int) < 512 := by omega
  have hj1 : (j : Int) < 512 := by omega
  have hi0 : (0 : Int) ≤ (i : Int) := by omega
  have hj0 : (0 : Int) ≤ (j : Int) := by omega
  clear HB h ha hb
  go_enter Try.func40, Try.ntmps40
  go_wp2
  go_outline
  go_region_held3 (fun w' => w'.cell? ⟨H, 0, none⟩ = some (.slice (some ⟨g2, 0, none⟩) T.length cap2) ∧ w'.cell? ⟨H, 1 + i, none⟩ = some (.int .i64 (x : Int)) ∧ w'.cell? ⟨H, 1 + j, none⟩ = some (.int .i64 (y : Int)) ∧
      w'.cell? ⟨g2, x * 3, none⟩ = some (.int .i64 aw) ∧ w'.cell? ⟨g2, x * 3 + 1, none⟩ = some (.int .i64 ai) ∧ w'.cell? ⟨g2, x * 3 + 2, none⟩ = some (.int .i64 au) ∧ w'.cell? ⟨g2, y * 3, none⟩ = some (.int .i64 bw) ∧ w'.cell? ⟨g2, y * 3 + 1, none⟩ = some (.int .i64 bi) ∧ w'.cell? ⟨g2, y * 3 + 2, none⟩ = some (.int .i64 bu) ∧ Hid (Below W.heap.size W w')) (first | exact ⟨k0, k1, k2, a0, a1, a2, b0, b1, b2, Lib.hid ((Below.refl _ _).drew)⟩ | exact keep9 hbb (by assumption) | assumption)
      ((go_at_call 50; refine (HBB _).mono ?_; rintro e w' ⟨rfl, hbb⟩))
  have HZ := And.right (And.right (And.right (And.right (And.right (And.right (And.right (And.right (And.right ‹_ ∧ _ ∧ _ ∧ _ ∧ _ ∧ _ ∧ _ ∧ _ ∧ _ ∧ Hid (Below W.heap.size W w')›))))))))
  go_wp2
  go_ret
  exact ⟨rfl, HZ.out⟩

/-! ### What stays -/
structure Kp (H : Nat) (W W' : World) : Prop where
  os : W'.os = W.os
  tape : W'.tape = W.tape
  output : W'.output = W.output
  size : W.heap.size ≤ W'.heap.size
  far : ∀ k, k < W.heap.size → k ≠ H → W'.heap[k]? = W.heap[k]?
theorem Kp.refl (H : Nat) (W : World) : Kp H W W := ⟨rfl, rfl, rfl, Nat.le_refl _, fun _ _ _ => rfl⟩
theorem Kp.trans {H : Nat} {a b c : World} (h : Kp H a b) (k : Kp H b c) : Kp H a c :=
  ⟨k.os.trans h.os, k.tape.trans h.tape, k.output.trans h.output, Nat.le_trans h.size k.size, fun j hj hne => (k.far j (Nat.lt_of_lt_of_le hj h.size) hne).trans (h.far j hj hne)⟩
theorem Kp.below {H : Nat} {a b : World} (h : Below a.heap.size a b) : Kp H a b := ⟨h.os, h.tape, h.output, h.size, fun k hk _ => h.block k hk⟩
theorem Kp.set (H : Nat) (W : World) (j : Nat) (u : Value) : Kp H W (W.setCell ⟨H, j, none⟩ u) :=
  ⟨rfl, rfl, rfl, by rw [Row.size_set]; exact Nat.le_refl _, fun k _ hne => Below.heap_setCell W ⟨H, j, none⟩ u k hne⟩
theorem Kp.drew {H : Nat} {a b : World} (h : Kp H a b) : Kp H a b.drew := ⟨h.os, h.tape, h.output, h.size, h.far⟩
theorem Kp.to {H base : Nat} {a b : World} (h : Kp H a b) (hb : base ≤ H) (hs : base ≤ a.heap.size) : Below base a b := ⟨h.os, h.tape, h.output, h.size, fun k hk => h.far k (by omega) (by omega)⟩
theorem Hp.drew {base H : Nat} {v : Value} {T : List Th} {L : Nat → Nat} {n : Nat} {W : World} (h : Hp base H v T L n W) : Hp base H v T L n W.drew := ⟨h.hb, h.h, own_drew h.o, h.ne⟩
/-- The heap's order stands, and its ids are these. -/
structure Heaped (T : List Th) (l : List Nat) (L : Nat → Nat) (n : Nat) : Prop where
  ord : HeapOrd (ltT T) L n
  ids : (ids L n).Perm l
theorem Heaped.lt {T : List Th} {l : List Nat} {L : Nat → Nat} {n : Nat} (h : Heaped T l L n) (hl : ∀ x ∈ l, x < T.length) (k : Nat) (hk : k < n) : L k < T.length := by
  refine hl _ (h.ids.mem_iff.1 ?_)
  exact List.mem_map.2 ⟨k, List.mem_range.2 hk, rfl⟩
theorem Heaped.length {T : List Th} {l : List Nat} {L : Nat → Nat} {n : Nat} (h : Heaped T l L n) : l.length = n := by rw [← h.ids.length_eq, ids_length]
/-- On the way up. -/
structure Up (T : List Th) (l : List Nat) (L : Nat → Nat) (n i : Nat) : Prop where
  inv : UpInv (ltT T) L n i
  ids : (ids L n).Perm l
  lt : ∀ k, k < n → L k < T.length
def Pushed (base H : Nat) (v : Value) (T : List Th) (l : List Nat) (n x : Nat) (W : World) (e : Ending) (w' : World) : Prop := e = .returned (.tuple #[]) ∧ ∃ L', Hp base H v T L' (n + 1) w' ∧ Heaped T (l ++ [x]) L' (n + 1) ∧ Kp H W w'
theorem par_lt {i : Nat} (h : 0 < i) : par i < i := by unfold par; omega
set_option maxHeartbeats 8000000 in
set_option maxRecDepth 100000 in
theorem push_any (HB : Bef) {base H : Nat} {v : Value} {T : List Th} {L : Nat → Nat} {n : Nat} {l : List Nat} {W : World} (h : Hp base H v T L n W) (O : Ord (ltT T)) (hh : Heaped T l L n) (hl : ∀ y ∈ l, y < T.length) (x : Nat) (hx : x < T.length) (hn : n < 512) :
    Calls Try.prog 20 #[.pointer (some ⟨H, 0, none⟩), .int .i64 (x : Int)] W (Pushed base H v T l n x W) := by
  have mixed := mixed'
  have kn := h.celln
  have kl := h.cell n hn
  have h1 := h.set (1 + n) (.int .i64 (x : Int)) (hcells_set_l v L n n x hn)
  have h2 := h1.set 513 (.int .i64 ((n + 1 : Nat) : Int)) (hcells_set_n v _ n (n + 1))
  have hkp : Kp H W ((W.setCell ⟨H, 1 + n, none⟩ (.int .i64 (x : Int))).setCell ⟨H, 513, none⟩ (.int .i64 ((n + 1 : Nat) : Int))) := (Kp.set H W _ _).trans (Kp.set H _ _ _)
  have hup : Up T (l ++ [x]) (upd L n x) (n + 1) n := by
    refine ⟨UpInv.start hh.ord, ?_, fun k hk => ?_⟩
    · rw [ids_upd]
      exact hh.ids.append_right _
    · unfold upd
      split
      · exact hx
      · exact hh.lt hl k (by omega)
  have kn1 := h1.celln
  have H2 := Lib.hid h2; have HK := Lib.hid hkp; have HU := Lib.hid hup; have HO := Lib.hid O
  obtain ⟨kn, kn'⟩ := kn; obtain ⟨kl, kl'⟩ := kl; obtain ⟨kn1, kn1'⟩ := kn1
  have e1 : ((n + 1 : Nat) : Int) = (n : Int) + 1 := by omega
  rw [e1] at H2 HK
  have n0 : (0 : Int) ≤ (n : Int) := by omega
  have n1 : (n : Int) < 512 := by omega
  clear h h1 h2 hkp hup O hh hl e1
  go_enter Try.func20, Try.ntmps20
  go_wp2
  clear kn kn' kl kl' kn1 kn1' n0 n1
  generalize ((W.setCell ⟨H, 1 + n, none⟩ (.int .i64 (x : Int))).setCell ⟨H, 513, none⟩ (.int .i64 ((n : Int) + 1))) = W2 at H2 HK ⊢
  go_loopg [4] (n + 1) (fun gk s4 wr => ∃ (i : Nat) (L' : Nat → Nat), s4 = .int .i64 i ∧ i ≤ n ∧ i < gk ∧ Hid (Hp base H v T L' (n + 1) wr) ∧ Hid (Up T (l ++ [x]) L' (n + 1) i) ∧ Hid (Kp H W wr))
  case atStart => exact ⟨n, _, rfl, Nat.le_refl _, by omega, H2, HU, HK⟩
  case round =>
    clear H2 HU HK
    obtain ⟨i, L', rfl, hi, hgk, HH, HU, HK⟩ := hrel
    by_cases h0 : 0 < i
    · have hz : (0 : Int) < (i : Int) := by omega
      obtain ⟨p, hp⟩ : ∃ p, p = par i := ⟨_, rfl⟩
      have hpi := par_lt h0
      rw [← hp] at hpi
      have hp2 : ((i : Int) - 1) / 2 = (p : Int) := by rw [hp]; unfold par; omega
      have HP := Lib.hid hp
      clear hp
      have hcall := less_any HB HH.out i p (by omega) (by omega) _ _ (getD_of (HU.out.lt i (by omega))) (getD_of (HU.out.lt p (by omega)))
      cases hr : bef (T.getD (L' i) none_) (T.getD (L' p) none_) with
      | true =>
        rw [hr] at hcall
        have HR := Lib.hid hr
        clear hr
        go_wp2_with fail
        refine hcall.mono ?_
        rintro e w2 ⟨rfl, hb⟩
        have hh2 := HH.out.later hb
        have HK2 := Lib.hid (HK.out.trans (Kp.below hb))
        clear hcall HH HK hb
        obtain ⟨c1, f1⟩ := hh2.cell i (by omega)
        obtain ⟨c2, f2⟩ := hh2.cell p (by omega)
        have hs1 := hh2.set (1 + i) (.int .i64 (L' p : Int)) (hcells_set_l v L' (n + 1) i (L' p) (by omega))
        have c3 := (hs1.cell p (by omega)).1
        have e3 : upd L' i (L' p) p = L' p := by unfold upd; rw [if_neg (by omega)]
        rw [e3] at c3
        have hs2 := hs1.set (1 + p) (.int .i64 (L' i : Int)) (hcells_set_l v _ (n + 1) p (L' i) (by omega))
        have e4 : upd (upd L' i (L' p)) p (L' i) = swap L' i p := by
          funext k
          by_cases q1 : k = i
          · subst q1
            simp [upd, swap, show k ≠ p by omega]
          · by_cases q2 : k = p
            · subst q2
              simp [upd, swap, q1]
            · simp [upd, swap, q1, q2]
        rw [e4] at hs2
        have HS := Lib.hid hs2.drew
        have HK3 := Lib.hid ((HK2.out.trans ((Kp.set H w2 (1 + i) (.int .i64 (L' p : Int))).trans (Kp.set H _ (1 + p) (.int .i64 (L' i : Int))))).drew)
        have hlt : ltT T (L' i) (L' (par i)) = true := by rw [← HP.out]; exact HR.out
        have HUP : Hid (Up T (l ++ [x]) (swap L' i p) (n + 1) p) := by
          have hU := HU.out
          have e5 := HP.out
          subst e5
          refine Lib.hid ⟨hU.inv.step HO.out (by omega) h0 hlt, (ids_swap L' (n + 1) i (par i) (by omega) (by omega)).trans hU.ids, fun k hk => ?_⟩
          unfold swap
          split
          · exact hU.lt _ (by omega)
          · split
            · exact hU.lt _ (by omega)
            · exact hU.lt k hk
        generalize L' i = y1 at *
        generalize L' p = y2 at *
        have b1 : (0 : Int) ≤ (i : Int) := by omega
        have b2 : (i : Int) < 512 := by omega
        have b3 : (0 : Int) ≤ (p : Int) := by omega
        have b4 : (p : Int) < 512 := by omega
        clear hs1 hs2 e3 e4 hh2 HU HK2 HR HP hlt
        go_wp2
        go_big_region_o
        clear c1 c2 c3 f1 f2
        generalize ((w2.setCell ⟨H, 1 + i, none⟩ (.int .i64 (y2 : Int))).setCell ⟨H, 1 + p, none⟩ (.int .i64 (y1 : Int))).drew = w3 at HS HK3 ⊢
        go_wp2
        go_roundg i
        case measure => omega
        case rel => exact ⟨p, _, by rw [hp2], by omega, hpi, HS, HUP, HK3⟩
      | false =>
        rw [hr] at hcall
        have HR := Lib.hid hr
        clear hr
        go_wp2_with fail
        refine hcall.mono ?_
        rintro e w2 ⟨rfl, hb⟩
        have hh2 := HH.out.later hb
        have HK2 := Lib.hid (HK.out.trans (Kp.below hb))
        clear hcall hb
        go_wp2
        go_end0
        refine ⟨rfl, L', hh2, ⟨HU.out.inv.stop fun _ => ?_, HU.out.ids⟩, HK2.out⟩
        rw [← HP.out]; exact HR.out
    · obtain rfl : i = 0 := by omega
      have hz : ¬ (0 : Int) < (0 : Int) := by omega
      go_wp2
      go_end0
      exact ⟨rfl, L', HH.out, ⟨HU.out.inv.stop fun h => absurd h (Nat.lt_irrefl _), HU.out.ids⟩, HK.out⟩
end Go.Proofs.Ytceompmfmceicaa.Heap
