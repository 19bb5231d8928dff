/- The sort inside suffix.Array, by its contract: the order is a permutation of what it was, ascending by the comparator; all else stays. -/
import Derived.Test.YtalhipjgafjmoaaYCmp
import Derived.Test.YtalhipjgafjmoaaYLay
namespace Go.Proofs.Ytalhipjgafjmoaa.Suf
open Go.RowKit
set_option linter.unusedVariables false
set_option linter.unusedSimpArgs false

def rowOf (l : List Int) : Array Value := (l.map (Value.int .i64)).toArray
theorem rowOf_size (l : List Int) : (rowOf l).size = l.length := by simp [rowOf]
/-- A function on 0 .. n, as a list. -/
def tab (n : Nat) (f : Nat → Int) : List Int := (List.range (n + 1)).map f
theorem tab_length (n : Nat) (f : Nat → Int) : (tab n f).length = n + 1 := by simp [tab]
theorem tab_getD (n : Nat) (f : Nat → Int) (k : Nat) (h : k ≤ n) : (tab n f).getD k 0 = f k := by
  unfold tab
  rw [List.getD_eq_getElem?_getD, List.getElem?_map, List.getElem?_range (by omega)]
  rfl
theorem tab_row_get (n : Nat) (f : Nat → Int) (k : Nat) (h : k ≤ n) : (rowOf (tab n f))[k]? = some (.int .i64 (f k)) := by
  unfold rowOf tab
  rw [List.getElem?_toArray, List.getElem?_map, List.getElem?_map, List.getElem?_range (by omega)]
  rfl
theorem tab_row_ext (n : Nat) (f : Nat → Int) (cs : Array Value) (hs : cs.size = n + 1) (h : ∀ k, k ≤ n → cs[k]? = some (.int .i64 (f k))) : cs = rowOf (tab n f) := by
  apply Array.ext_getElem?
  intro j
  have hs' : (rowOf (tab n f)).size = n + 1 := by rw [rowOf_size, tab_length]
  rcases Nat.lt_or_ge j (n + 1) with hj | hj
  · rw [h j (by omega), tab_row_get n f j (by omega)]
  · rw [Array.getElem?_eq_none (by omega), Array.getElem?_eq_none (by omega)]
theorem tab_row_set (n : Nat) (f g : Nat → Int) (k : Nat) (v : Int) (hv : g k = v) (hg : ∀ j, j ≤ n → j ≠ k → g j = f j) : (rowOf (tab n f)).setIfInBounds k (.int .i64 v) = rowOf (tab n g) := by
  have hs : (rowOf (tab n f)).size = n + 1 := by rw [rowOf_size, tab_length]
  refine tab_row_ext n g _ (by rw [Array.size_setIfInBounds]; exact hs) fun j hj => ?_
  rw [Array.getElem?_setIfInBounds]
  by_cases e : k = j
  · subst e
    rw [if_pos rfl, if_pos (by omega), hv]
  · rw [if_neg e, tab_row_get n f j hj, hg j hj (Ne.symm e)]
theorem row_cells {w : World} {g t n : Nat} {f : Nat → Int} (h : w.heap[g]? = some (.cells (rowOf (tab n f)) t (0, 0))) (k : Nat) (hk : k ≤ n) : w.cell? ⟨g, k, none⟩ = some (.int .i64 (f k)) ∧ w.frozen? ⟨g, k, none⟩ = false := by
  constructor
  · simp only [World.cell?, h]
    exact tab_row_get n f k hk
  · simp [World.frozen?, h]
theorem one_cell {w : World} {g t : Nat} {v : Value} (h : w.heap[g]? = some (.cells #[v] t (0, 0))) : w.cell? ⟨g, 0, none⟩ = some v ∧ w.frozen? ⟨g, 0, none⟩ = false := by
  simp [World.cell?, World.frozen?, h]
theorem row_set {w : World} {g t : Nat} {cs : Array Value} (h : w.heap[g]? = some (.cells cs t (0, 0))) (k : Nat) (v : Value) : (w.setCell ⟨g, k, none⟩ v).heap[g]? = some (.cells (cs.setIfInBounds k v) t (0, 0)) := by
  simp [World.setCell, Array.getElem?_modify, h]
theorem size_set (w : World) (p : Addr) (v : Value) : (w.setCell p v).heap.size = w.heap.size := by simp [World.setCell]
theorem set_far (w : World) (p : Addr) (v : Value) (b : Nat) (h : b ≠ p.block) {o : Option Obj} (hb : w.heap[b]? = o) : (w.setCell p v).heap[b]? = o := (Below.heap_setCell w p v b h).trans hb

/-- What lies in memory at the label: the length, the order, the names, the step, the closures, the fresh names. -/
structure Mem (w : World) (B n : Nat) (od nm ff : Nat → Int) (s : Nat) (W : World) : Prop where
  hB : w.heap.size ≤ B
  bd : Bd w W
  n0 : W.heap[B]? = some (.cells #[.int .i64 (n : Int)] 3 (0, 0))
  od : W.heap[B + 1]? = some (.cells (rowOf (tab n od)) 3 (0, 0))
  nm : W.heap[B + 2]? = some (.cells (rowOf (tab n nm)) 3 (0, 0))
  ns : W.heap[B + 3]? = some (.cells #[.slice (some ⟨B + 2, 0, none⟩) (n + 1) (n + 1)] 23 (0, 0))
  st : W.heap[B + 4]? = some (.cells #[.int .i64 (s : Int)] 3 (0, 0))
  bh : W.heap[B + 5]? = some (.cells #[.func (.func 26) #[] #[.pointer (some ⟨B, 0, none⟩), .pointer (some ⟨B + 3, 0, none⟩)]] 50 (0, 0))
  ky : W.heap[B + 6]? = some (.cells #[.func (.func 27) #[] #[.pointer (some ⟨B + 3, 0, none⟩), .pointer (some ⟨B + 5, 0, none⟩), .pointer (some ⟨B + 4, 0, none⟩)]] 53 (0, 0))
  ff : W.heap[B + 7]? = some (.cells (rowOf (tab n ff)) 3 (0, 0))
theorem Mem.lt {w : World} {B n : Nat} {od nm ff : Nat → Int} {s : Nat} {W : World} (h : Mem w B n od nm ff s W) : B + 7 < W.heap.size := (Array.getElem?_eq_some_iff.1 h.ff).1
theorem Mem.env {w : World} {B n : Nat} {od nm ff : Nat → Int} {s : Nat} {W : World} (h : Mem w B n od nm ff s W) : Env n (tab n nm) B (B + 3) (B + 5) (B + 4) (B + 6) (B + 2) s W :=
  ⟨(one_cell h.n0).1, (one_cell h.ns).1, fun k hk => by rw [tab_getD n nm k hk]; exact (row_cells h.nm k hk).1, (one_cell h.bh).1, (one_cell h.st).1, (one_cell h.ky).1⟩
/-- What makes new memory alone leaves it. -/
theorem Mem.later {w : World} {B n : Nat} {od nm ff : Nat → Int} {s : Nat} {W W' : World} (h : Mem w B n od nm ff s W) (hb : Bd W W') : Mem w B n od nm ff s W' := by
  have hl := h.lt
  have g : ∀ k, k ≤ 7 → W'.heap[B + k]? = W.heap[B + k]? := fun k hk => hb.below.block _ (by omega)
  exact ⟨h.hB, h.bd.trans hb, (g 0 (by omega)).trans h.n0, (g 1 (by omega)).trans h.od, (g 2 (by omega)).trans h.nm, (g 3 (by omega)).trans h.ns, (g 4 (by omega)).trans h.st, (g 5 (by omega)).trans h.bh, (g 6 (by omega)).trans h.ky, (g 7 (by omega)).trans h.ff⟩

/-- The key of an end, and the comparator on ends. -/
def k1 (nm : Nat → Int) (x : Nat) : Int := nm x
def k2 (nm : Nat → Int) (n s x : Nat) : Int := if n < x + s then -1 else nm (x + s)
theorem beh_k2 (nm : Nat → Int) (n s x : Nat) : beh (tab n nm) n ((x + s : Nat) : Int) = k2 nm n s x := by
  unfold beh k2
  by_cases h : n < x + s
  · rw [if_pos (by omega), if_pos h]
  · rw [if_neg (by omega), if_neg h, Int.toNat_natCast, tab_getD n nm _ (by omega)]
def cfn (nm : Nat → Int) (n s x y : Nat) : Int := orI (cmpI (k1 nm x) (k1 nm y)) (cmpI (k2 nm n s x) (k2 nm n s y))
/-- One key is ahead of another one. -/
def klt (nm : Nat → Int) (n s x y : Nat) : Prop := k1 nm x < k1 nm y ∨ k1 nm x = k1 nm y ∧ k2 nm n s x < k2 nm n s y
theorem cfn_lt (nm : Nat → Int) (n s x y : Nat) : cfn nm n s x y < 0 ↔ klt nm n s x y := by
  unfold cfn klt orI cmpI
  generalize k1 nm x = a; generalize k1 nm y = b; generalize k2 nm n s x = c; generalize k2 nm n s y = d
  by_cases h1 : a < b
  · simp [h1]
  · by_cases h2 : b < a
    · have : a ≠ b := by omega
      simp [h1, h2, this]
    · have : a = b := by omega
      subst this
      simp
      by_cases h3 : c < d
      · simp [h3]
      · by_cases h4 : d < c <;> simp [h3, h4]

def enc (n : Nat) (x : Fin (n + 1)) : Value := .int .i64 (x.val : Int)
def cf (nm : Nat → Int) (n s : Nat) (x y : Fin (n + 1)) : Int := cfn nm n s x.val y.val
theorem lt_cf (nm : Nat → Int) (n s : Nat) (x y : Fin (n + 1)) : ltOf (cf nm n s) x y = true ↔ klt nm n s x.val y.val := by
  unfold ltOf cf
  rw [decide_eq_true_iff]
  exact cfn_lt nm n s _ _
theorem swo (nm : Nat → Int) (n s : Nat) : Go.Sort.SWO (ltOf (cf nm n s)) where
  irrefl x := by
    cases h : ltOf (cf nm n s) x x with
    | false => rfl
    | true => have := (lt_cf nm n s x x).1 h; unfold klt at this; omega
  trans x y z h1 h2 := by
    have h1 := (lt_cf nm n s x y).1 h1
    have h2 := (lt_cf nm n s y z).1 h2
    refine (lt_cf nm n s x z).2 ?_
    unfold klt at *
    omega
  ntrans x y z h1 h2 := by
    have h1 : ¬ klt nm n s x y := fun h => by have := (lt_cf nm n s x y).2 h; rw [h1] at this; cases this
    have h2 : ¬ klt nm n s y z := fun h => by have := (lt_cf nm n s y z).2 h; rw [h2] at this; cases this
    cases h : ltOf (cf nm n s) x z with
    | false => rfl
    | true =>
      have h := (lt_cf nm n s x z).1 h
      unfold klt at *
      omega

theorem sorted_far (n : Nat) (w : World) (blk m : Nat) (d : Array (Fin (n + 1))) (os : Array Obj) (k : Nat) (hk : k < w.heap.size) (hne : k ≠ blk) :
    (sortWorld (enc n) w blk 0 m d os).heap[k]? = w.heap[k]? := by
  unfold sortWorld
  rw [Go.Sort.heap_grow_old _ _ (by simpa [Go.Sort.ahead] using hk)]
  unfold Go.Sort.putRow Go.Sort.mapBlock
  show (w.heap.modify blk _)[k]? = _
  rw [Array.getElem?_modify, if_neg (Ne.symm hne)]
theorem sorted_row (n : Nat) (w : World) (blk m t : Nat) (d : Array (Fin (n + 1))) (os : Array Obj) (cs : Array Value) (hd : d.size = n + 1) (hcs : cs.size = n + 1) (h : w.heap[blk]? = some (.cells cs t (0, 0))) :
    (sortWorld (enc n) w blk 0 m d os).heap[blk]? = some (.cells (rowOf (tab n fun k => (d[k]!.val : Int))) t (0, 0)) := by
  have hk : blk < w.heap.size := (Array.getElem?_eq_some_iff.1 h).1
  unfold sortWorld
  rw [Go.Sort.heap_grow_old _ _ (by simpa [Go.Sort.ahead] using hk)]
  unfold Go.Sort.putRow Go.Sort.mapBlock
  show (w.heap.modify blk _)[blk]? = _
  rw [Array.getElem?_modify, if_pos rfl, h]
  show some (Obj.cells (Go.Sort.putCells (enc n) 0 d cs) t (0, 0)) = _
  congr 2
  refine tab_row_ext n _ _ (by simp [Go.Sort.putCells, hcs]) fun k hk => ?_
  unfold Go.Sort.putCells
  rw [Array.getElem?_mapIdx, Array.getElem?_eq_getElem (by omega)]
  simp only [Option.map_some]
  rw [if_pos ⟨Nat.zero_le _, by omega⟩]
  rfl
theorem sorted_bd (n : Nat) (w0 w : World) (blk m : Nat) (d : Array (Fin (n + 1))) (os : Array Obj) (h : Bd w0 w) (hb : w0.heap.size ≤ blk) (hk : blk < w.heap.size) : Bd w0 (sortWorld (enc n) w blk 0 m d os) := by
  refine ⟨⟨h.below.os, h.below.tape, h.below.output, ?_, fun k hk' => ?_⟩, ?_⟩
  · unfold sortWorld
    have := h.below.size
    simp [Go.Sort.ahead]
    omega
  · rw [sorted_far n w blk m d os k (by have := h.below.size; omega) (by omega)]
    exact h.below.block k hk'
  · exact Nat.le_trans h.drawn (Nat.le_add_right _ _)
theorem Mem.sorted {w : World} {B n : Nat} {od nm ff : Nat → Int} {s : Nat} {W : World} (h : Mem w B n od nm ff s W) (m : Nat) (d : Array (Fin (n + 1))) (os : Array Obj) (hd : d.size = n + 1) :
    Mem w B n (fun k => (d[k]!.val : Int)) nm ff s (sortWorld (enc n) W (B + 1) 0 m d os) := by
  have hl := h.lt
  have g : ∀ k, k ≤ 7 → k ≠ 1 → (sortWorld (enc n) W (B + 1) 0 m d os).heap[B + k]? = W.heap[B + k]? := fun k hk hk1 => sorted_far n W (B + 1) m d os _ (by omega) (by omega)
  exact ⟨h.hB, sorted_bd n w W (B + 1) m d os h.bd (by have := h.hB; omega) (by omega), (g 0 (by omega) (by omega)).trans h.n0, sorted_row n W (B + 1) m _ d os _ hd (by rw [rowOf_size, tab_length]) h.od, (g 2 (by omega) (by omega)).trans h.nm,
    (g 3 (by omega) (by omega)).trans h.ns, (g 4 (by omega) (by omega)).trans h.st, (g 5 (by omega) (by omega)).trans h.bh, (g 6 (by omega) (by omega)).trans h.ky, (g 7 (by omega) (by omega)).trans h.ff⟩

theorem sort_any {w : World} {B n : Nat} {od nm ff : Nat → Int} {s : Nat} {W : World} (h : Mem w B n od nm ff s W) (hn : n ≤ 8192) (hs : s ≤ 16384) (d : Array (Fin (n + 1))) (hd : d.size = n + 1) (hod : ∀ k, k ≤ n → od k = (d[k]!.val : Int)) :
    Calls Try.prog 28 #[.slice (some ⟨B + 1, 0, none⟩) (n + 1) (n + 1), .func (.func 29) #[] #[.pointer (some ⟨B + 6, 0, none⟩)]] W fun e w' => e = .returned (.tuple #[]) ∧
      ∃ d' : Array (Fin (n + 1)), d'.size = n + 1 ∧ d'.toList.Perm d.toList ∧ (∀ i j, i < j → j < n + 1 → ¬ klt nm n s d'[j]!.val d'[i]!.val) ∧ Mem w B n (fun k => (d'[k]!.val : Int)) nm ff s w' := by
  have eg : ∀ args w, (callFunc 29 args).run Try.prog w = .ok (.enter 29 args) w := enters_of Try.func29 (by kernel_rfl) rfl
  have hl := h.lt
  have hcmp : CmpLays1 Try.prog 29 #[.pointer (some ⟨B + 6, 0, none⟩)] (enc n) (cf nm n s) (B + 1) 0 d.size W := by
    intro m os dk hdk x y
    have hM := h.sorted m dk os (by rw [hdk, hd])
    have hc := cmp_any n (tab n nm) B (B + 3) (B + 5) (B + 4) (B + 6) (B + 2) s x.val y.val _ hn hs (by have := x.isLt; omega) (by have := y.isLt; omega) hM.env
    refine hc.mono fun e w' ⟨he, hb⟩ => ⟨?_, hb.grow⟩
    rw [he]
    congr 1
    unfold cf cfn k1
    rw [tab_getD n nm _ (by have := x.isLt; omega), tab_getD n nm _ (by have := y.isLt; omega), beh_k2, beh_k2]
  have hH : Go.Sort.Holds (enc n) W (B + 1) 0 d := by
    intro j hj
    have hc := row_cells h.od j (by omega)
    rw [hod j (by omega)] at hc
    rw [Nat.zero_add]
    exact hc
  have hS := Any.slices_SortFunc Try.sortL (enc n) (fun _ => rfl) (cf nm n s) (swo nm n s) 29 #[.pointer (some ⟨B + 6, 0, none⟩)] (B + 1) 0 (n + 1) d W eg hcmp hH (by omega) (by omega)
  rw [hd] at hS
  refine hS.mono fun e w' ⟨he, d', m, os, hp, hsd, hw⟩ => ⟨he, d', ?_, ?_, ?_, ?_⟩
  · rw [hp.1, hd]
  · have h3 := hp.2.2
    have hx : ∀ (x : Array (Fin (n + 1))) (m : Nat), x.size = m → x.extract 0 m = x := fun x m hm => by subst hm; simp
    rw [hx d' _ (by rw [hp.1, hd]), hx d _ hd] at h3
    exact h3
  · intro i j hij hj hk
    have := hsd i j (Nat.zero_le _) hij hj
    rw [(lt_cf nm n s _ _).2 hk] at this
    cases this
  · rw [hw]
    exact h.sorted m d' os (by rw [hp.1, hd])
end Go.Proofs.Ytalhipjgafjmoaa.Suf
