/- suffix.Array, by its contract, its plain law left open. -/
import Derived.Test.YtalhipjgafjmoaaYSort
import Derived.WalkMore
import Derived.ScopeJumps
import Derived.Outline
import Derived.OwnWalk
import Derived.LoopTactic
import Derived.Laws.CopyOwn
import Derived.Laws.IdiomCopy
import Derived.Laws.EntriesVeiled
import Derived.BigRegion
import Derived.BigQuiet
import Derived.Deep.QuietTactic
namespace Go.Proofs.Ytalhipjgafjmoaa.Suf
open Go.RowKit
set_option linter.unusedVariables false
set_option linter.unusedSimpArgs false

theorem eq_num (d : Nat) (a b : Int) (w : World) : (Op.equalIn (d + 1) 3 (.int .i64 a) (.int .i64 b)).run Try.prog w = .ok (a == b) w := by
  simp [Op.equalIn, run_underlying Try.underlying3]
theorem info_num : (Try.prog.info? 3).map (fun i => (i.zero, i.size, i.bytes)) = some (some (.int .i64 0), 1, 8) := by kernel_rfl
theorem eq_pair (a b c d : Int) (w : World) : (Op.equalIn 10000 52 (.agg #[.int .i64 a, .int .i64 b]) (.agg #[.int .i64 c, .int .i64 d])).run Try.prog w = .ok ((a == c) && (b == d)) w := by
  obtain ⟨i0, hi, hz0, hz1, hz2⟩ := info_parts info_num
  have hsz : ∀ w, (sizeOf 3).run Try.prog w = .ok 1 w := fun w => by simp [sizeOf, typeInfo, hi, hz1]
  have hu := run_underlying Try.underlying52
  have h3 := run_underlying Try.underlying3
  have e1 := eq_num 9998 a c w
  have e2 := eq_num 9998 b d w
  rw [show (10000 : Nat) = 9998 + 1 + 1 from rfl]
  unfold Op.equalIn
  simp [hu, hsz, part, h3, e1, e2, List.range', isAgg]
  by_cases h1 : a = c <;> by_cases h2 : b = d <;> simp [h1, h2]

theorem Mem.fresh {w : World} {B n : Nat} {od nm ff : Nat → Int} {s : Nat} {W : World} (h : Mem w B n od nm ff s W) (x : Nat) (v : Int) (hx : x ≤ n) :
    Mem w B n od nm (fun y => if y = x then v else ff y) s (W.setCell ⟨B + 7, x, none⟩ (.int .i64 v)) := by
  have g : ∀ k, k < 7 → (W.setCell ⟨B + 7, x, none⟩ (.int .i64 v)).heap[B + k]? = W.heap[B + k]? := fun k hk => set_far _ _ _ _ (by simp; omega) rfl
  exact ⟨h.hB, h.bd.setCell (by have := h.hB; simp; omega) _, (g 0 (by omega)).trans h.n0, (g 1 (by omega)).trans h.od, (g 2 (by omega)).trans h.nm, (g 3 (by omega)).trans h.ns, (g 4 (by omega)).trans h.st, (g 5 (by omega)).trans h.bh, (g 6 (by omega)).trans h.ky,
    by rw [row_set h.ff, tab_row_set n ff (fun y => if y = x then v else ff y) x v (by simp) (fun j _ hj => by simp [hj])]⟩

theorem wp_scope_again {P : Program} {a : Act} {w : World} {Q : Exit → Act → World → Prop} {c rest : Code} (l : Nat) (J : Act → World → Prop) (μ : Act → World → Nat) (hf : findLabel c l = some (Code.skip.seq rest))
    (pass : ∀ a w, J a w → rest.wp P (Exit.jump l (fun a' w' => J a' w' ∧ μ a' w' < μ a w) Q) a w)
    (first : Hid (∀ a w, J a w → rest.wp P (Exit.jump l J Q) a w) → c.wp P (Exit.jump l J Q) a w) : (Code.scope c).wp P Q a w :=
  wp_scope_jumps l J μ hf (first (Lib.hid fun a w h => Code.wp_mono (fun e a' w' he => by cases e <;> first | exact ⟨he.1, he.2.1⟩ | exact he) (pass a w h))) fun a w h => wp_seq (wp_skip (pass a w h))

theorem row_one (l : List Int) : ∀ v ∈ l.map (Value.int .i64), v.oneCell' = true := by
  intro v hv
  obtain ⟨x, _, rfl⟩ := List.mem_map.1 hv
  rfl
theorem copy_run {w : World} {B n : Nat} {od nm ff : Nat → Int} {s : Nat} {W : World} (h : Mem w B n od nm ff s W) (ty : TypeId) :
    (Builtin.copy_ #[23, 23] ty #[.slice (some ⟨B + 2, 0, none⟩) (n + 1) (n + 1), .slice (some ⟨B + 7, 0, none⟩) (n + 1) (n + 1)]).run Try.prog W = .ok (goInt (n + 1)) (W.setRow (B + 2) (rowOf (tab n ff))) := by
  obtain ⟨i0, hi, hz0, hz1, hz2⟩ := info_parts info_num
  have hlen : ((tab n ff).map (Value.int .i64)).length = n + 1 := by rw [List.length_map, tab_length]
  have h1 := run_copy_row (P := Try.prog) W 23 23 ty 3 (B + 2) 0 (n + 1) (n + 1) ⟨B + 7, 0, none⟩ (n + 1) (n + 1) (rowOf (tab n nm)) 3 ((tab n ff).map (Value.int .i64)) Try.underlying23 (by rw [hi]; simp [hz1]) h.nm (by rw [hlen]; exact (Nat.min_self _).symm)
    (fun j v hj => by
      have hj' : j < n + 1 := by have := (List.getElem?_eq_some_iff.1 hj).1; omega
      have hc := (row_cells h.ff j (by omega)).1
      have e : (⟨B + 7, 0, none⟩ : Addr).add j = ⟨B + 7, j, none⟩ := by unfold Addr.add; split <;> simp_all
      rw [e, hc, ← hj]
      unfold tab
      rw [List.getElem?_map, List.getElem?_map, List.getElem?_range hj']
      rfl) (by rw [hlen, rowOf_size, tab_length]; omega) (row_one _)
  rw [h1]
  congr 1
  · rw [hlen]; rfl
  · have hd : (rowOf (tab n nm)).toList.drop (0 + ((tab n ff).map (Value.int .i64)).length) = [] := List.drop_of_length_le (by rw [hlen]; simp [rowOf, tab_length])
    rw [hd]
    simp [rowOf]
theorem Mem.copied {w : World} {B n : Nat} {od nm ff : Nat → Int} {s : Nat} {W : World} (h : Mem w B n od nm ff s W) : Mem w B n od ff ff s (W.setRow (B + 2) (rowOf (tab n ff))) := by
  have g : ∀ k, k ≠ 2 → (W.setRow (B + 2) (rowOf (tab n ff))).heap[B + k]? = W.heap[B + k]? := fun k hk => setRow_other W _ _ _ (by omega)
  refine ⟨h.hB, ⟨⟨h.bd.below.os, h.bd.below.tape, h.bd.below.output, ?_, fun k hk => ?_⟩, h.bd.drawn⟩, (g 0 (by omega)).trans h.n0, (g 1 (by omega)).trans h.od, ?_, (g 3 (by omega)).trans h.ns, (g 4 (by omega)).trans h.st, (g 5 (by omega)).trans h.bh, (g 6 (by omega)).trans h.ky, (g 7 (by omega)).trans h.ff⟩
  · rw [size_setRow]; exact h.bd.below.size
  · rw [setRow_other W _ _ _ (by have := h.hB; omega)]
    exact h.bd.below.block k hk
  · exact setRow_heap W _ _ _ _ _ h.nm
theorem Mem.stepped {w : World} {B n : Nat} {od nm ff : Nat → Int} {s : Nat} {W : World} (h : Mem w B n od nm ff s W) (s' : Nat) : Mem w B n od nm ff s' (W.setCell ⟨B + 4, 0, none⟩ (.int .i64 (s' : Int))) := by
  have g : ∀ k, k ≠ 4 → (W.setCell ⟨B + 4, 0, none⟩ (.int .i64 (s' : Int))).heap[B + k]? = W.heap[B + k]? := fun k hk => set_far _ _ _ _ (by simp; omega) rfl
  exact ⟨h.hB, h.bd.setCell (by have := h.hB; simp; omega) _, (g 0 (by omega)).trans h.n0, (g 1 (by omega)).trans h.od, (g 2 (by omega)).trans h.nm, (g 3 (by omega)).trans h.ns, row_set h.st 0 _, (g 5 (by omega)).trans h.bh, (g 6 (by omega)).trans h.ky, (g 7 (by omega)).trans h.ff⟩

/-- Two keys are not one. -/
def kne (nm : Nat → Int) (n s x y : Nat) : Bool := !(k1 nm x == k1 nm y && k2 nm n s x == k2 nm n s y)
/-- How many keys have been other than the one ahead. -/
def rnk (nm : Nat → Int) (n s : Nat) (d : Array (Fin (n + 1))) : Nat → Nat
  | 0 => 0
  | k + 1 => if kne nm n s d[k]!.val d[k + 1]!.val = true then rnk nm n s d k + 1 else rnk nm n s d k
def lastOf (nm : Nat → Int) (n s : Nat) (d : Array (Fin (n + 1))) (k : Nat) : Nat := rnk nm n s d (k - 1)

theorem rnk_le (nm : Nat → Int) (n s : Nat) (d : Array (Fin (n + 1))) : ∀ k, rnk nm n s d k ≤ k
  | 0 => Nat.le_refl _
  | k + 1 => by
    have := rnk_le nm n s d k
    unfold rnk
    split <;> omega
theorem round_done {w : World} {B n : Nat} {nm fk : Nat → Int} {s : Nat} {wr : World} {d : Array (Fin (n + 1))} (hM : Mem w B n (fun k => (d[k]!.val : Int)) nm fk s wr) (hinj : ∀ i j, i < j → j < n + 1 → d[i]!.val ≠ d[j]!.val) {k : Nat} (hk : k < n + 1)
    (hfk : ∀ i, i < k → fk d[i]!.val = rnk nm n s d i) {W' : World} (hb : Bd wr W') {v : Int} (hv : v = rnk nm n s d k) {x : Nat} (hx : x = d[k]!.val) :
    ∃ fk' : Nat → Int, (∀ i, i < k + 1 → fk' d[i]!.val = rnk nm n s d i) ∧ Mem w B n (fun k => (d[k]!.val : Int)) nm fk' s (W'.setCell ⟨B + 7, x, none⟩ (.int .i64 v)) := by
  subst hx
  refine ⟨_, fun i hi => ?_, (hM.later hb).fresh d[k]!.val v (by have := (d[k]!).isLt; omega)⟩
  by_cases e : i = k
  · subst e; rw [if_pos rfl, hv]
  · rw [if_neg (hinj i k (by omega) hk), hfk i (by omega)]

/-- The frame at the label. -/
def Frame (A : Option Addr) (n c B : Nat) (a : Act) : Prop := ∃ u : Nat → Value, a = { tmps := #[.slice A n c, u 1, .slice none 0 0, .int .i64 0, .pointer (some ⟨B, 0, none⟩), .slice (some ⟨B + 1, 0, none⟩) (n + 1) (n + 1), .pointer (some ⟨B + 3, 0, none⟩), u 7, .pointer (some ⟨B + 4, 0, none⟩), .pointer (some ⟨B + 5, 0, none⟩), .pointer (some ⟨B + 6, 0, none⟩), .slice (some ⟨B + 7, 0, none⟩) (n + 1) (n + 1), u 12, u 13, u 14, u 15, u 16, u 17, u 18, u 19, u 20, u 21, u 22, u 23, u 24, u 25, u 26, u 27, u 28, u 29, u 30, u 31, u 32, u 33, u 34, u 35, u 36, u 37, u 38, u 39, u 40, u 41, u 42, u 43, u 44, u 45, u 46, u 47, u 48, u 49, u 50, u 51, u 52, u 53, u 54, u 55, u 56, u 57, u 58, u 59, u 60, u 61, u 62, u 63, u 64, u 65, u 66, u 67, u 68, u 69, u 70, u 71, u 72, u 73, u 74, u 75, u 76, u 77, u 78, u 79, u 80, u 81, u 82, u 83, u 84, u 85, u 86, u 87, u 88, u 89, u 90, u 91, u 92, u 93, u 94, u 95, u 96, u 97], defers := [] }

noncomputable def muOf (B : Nat) (w : World) : Nat := match w.cell? ⟨B + 4, 0, none⟩ with
  | some (.int _ s) => 40000 - s.toNat
  | _ => 0

def Pre (w : World) (A : Option Addr) (n c B : Nat) (I : Array (Fin (n + 1)) → (Nat → Int) → Nat → Prop) (a : Act) (W : World) : Prop :=
  Frame A n c B a ∧ ∃ (d : Array (Fin (n + 1))) (nm ff : Nat → Int) (s : Nat), d.size = n + 1 ∧ 1 ≤ s ∧ s ≤ 16384 ∧ Mem w B n (fun k => (d[k]!.val : Int)) nm ff s W ∧ I d nm s

def RJ (W : World) (Bo : Nat) (F ka kb : Value) (j y x : Nat) (ne : Bool) (sl : Value) (FR : Value → Value → Value → Value → Value → Value → Value → Value → Value → Value → Value → Value → Value → Value → Value → Array Value) (L : Nat → Bool) (a : Act) (w : World) : Prop :=
  ∃ v62 v63 v64 v65 v66 v67 v68 v69 v70 v71 v72 v73 v74 v75 v76 : Value, a = { tmps := FR v62 v63 v64 v65 v66 v67 v68 v69 v70 v71 v72 v73 v74 v75 v76, defers := [] } ∧
    (L 0 = true → v62 = .int .i64 ((j + 1 : Nat) : Int)) ∧ (L 1 = true → v63 = .bool true) ∧ (L 2 = true → v64 = .bool true) ∧ (L 3 = true → v65 = F) ∧ (L 4 = true → v66 = sl) ∧ (L 5 = true → v67 = .int .i64 ((j + 1 : Nat) : Int)) ∧ (L 6 = true → v68 = .int .i64 (j : Int)) ∧
    (L 7 = true → v69 = .pointer (some ⟨Bo, j, none⟩)) ∧ (L 8 = true → v70 = .int .i64 (y : Int)) ∧ (L 9 = true → v71 = ka) ∧ (L 10 = true → v72 = F) ∧ (L 11 = true → v73 = .int .i64 (x : Int)) ∧ (L 12 = true → v74 = kb) ∧ (L 13 = true → v75 = .bool ne) ∧ (L 14 = true → v76 = .bool ne) ∧ Bd W w

theorem made_row (m : Nat) : madeCells (Value.int .i64 0).cells (m * 1) = rowOf (List.replicate m 0) := by
  apply Array.ext
  · simp [madeCells, rowOf, Value.cells]
  · intro i h1 h2
    simp [madeCells, rowOf, Value.cells, Nat.mod_one]
theorem make_run (n : Nat) (hn : n ≤ 8192) (w : World) : (Instr.makeSlice 23 (.int .i64 ((n : Int) + 1)) (.int .i64 ((n : Int) + 1))).run Try.prog w = .ok (.slice (some ⟨w.heap.size, 0, none⟩) (n + 1) (n + 1)) (w.alloc (.cells (rowOf (List.replicate (n + 1) 0)) 3)) := by
  obtain ⟨i0, hi, hz0, hz1, hz2⟩ := info_parts info_num
  have h := run_make (P := Try.prog) w 23 3 i0 (.int .i64 0) Try.underlying23 hi hz0 .i64 .i64 ((n : Int) + 1) ((n : Int) + 1) (by omega) (by omega) (by rw [hz2]; omega) (by omega)
  rw [show ((n : Int) + 1).toNat = n + 1 by omega, hz1, made_row] at h
  exact h

set_option maxHeartbeats 1000000 in
set_option maxRecDepth 100000 in
theorem array_long (A : Option Addr) (n c : Nat) (w : World) (hn : 8192 < n) (hm : n ≤ 9223372036854775807) :
    Calls Try.prog 20 #[.slice A n c] w fun e w' => e = .returned (.tuple #[.slice none 0 0, .int .i64 4]) ∧ Bd w w' := by
  have h1 : decide ((8192 : Int) < (n : Int)) = true := decide_eq_true (by omega)
  have h2 : decide (8192 < n) = true := decide_eq_true hn
  go_enter Try.func20, Try.ntmps20
  go_wp2
  go_step3
  go_wp2
  rw [Exit.noGoto_ret]
  go_ret2
  exact ⟨rfl, Bd.alloc w _⟩

theorem four_alloc (w : World) (o1 o2 o3 o4 : Obj) : ((((w.alloc o1).alloc o2).alloc o3).alloc o4).heap[w.heap.size]? = some o1 ∧ ((((w.alloc o1).alloc o2).alloc o3).alloc o4).heap[w.heap.size + 1]? = some o2 ∧
    ((((w.alloc o1).alloc o2).alloc o3).alloc o4).heap[w.heap.size + 1 + 1]? = some o3 ∧ ((((w.alloc o1).alloc o2).alloc o3).alloc o4).heap[w.heap.size + 1 + 1 + 1]? = some o4 ∧ ((((w.alloc o1).alloc o2).alloc o3).alloc o4).heap.size = w.heap.size + 4 := by
  have s1 : (w.alloc o1).heap.size = w.heap.size + 1 := by simp
  have s2 : ((w.alloc o1).alloc o2).heap.size = w.heap.size + 1 + 1 := by simp
  have s3 : (((w.alloc o1).alloc o2).alloc o3).heap.size = w.heap.size + 1 + 1 + 1 := by simp
  have s4 : ((((w.alloc o1).alloc o2).alloc o3).alloc o4).heap.size = w.heap.size + 4 := by simp
  refine ⟨?_, ?_, ?_, ?_, s4⟩
  · exact ((((Bd.alloc (w.alloc o1) o2).trans (Bd.alloc _ o3)).trans (Bd.alloc _ o4)).below.block _ (by omega)).trans (heap_alloc_new w o1)
  · rw [← s1]; exact (((Bd.alloc ((w.alloc o1).alloc o2) o3).trans (Bd.alloc _ o4)).below.block _ (by omega)).trans (heap_alloc_new (w.alloc o1) o2)
  · rw [← s2]; exact ((Bd.alloc (((w.alloc o1).alloc o2).alloc o3) o4).below.block _ (by omega)).trans (heap_alloc_new ((w.alloc o1).alloc o2) o3)
  · rw [← s3]; exact heap_alloc_new (((w.alloc o1).alloc o2).alloc o3) o4

/-- The first loop: so many places are filled. -/
structure Fill (w : World) (n : Nat) (l : List Int) (k : Nat) (wr : World) : Prop where
  bd : Bd w wr
  n0 : wr.heap[w.heap.size]? = some (.cells #[.int .i64 (n : Int)] 3 (0, 0))
  od : wr.heap[w.heap.size + 1]? = some (.cells (rowOf (tab n fun i => if i < k then (i : Int) else 0)) 3 (0, 0))
  nm : wr.heap[w.heap.size + 1 + 1]? = some (.cells (rowOf (tab n fun i => if i < k then l.getD i 0 + 1 else 0)) 3 (0, 0))
  ns : wr.heap[w.heap.size + 1 + 1 + 1]? = some (.cells #[.slice (some ⟨w.heap.size + 1 + 1, 0, none⟩) (n + 1) (n + 1)] 23 (0, 0))
  sz : wr.heap.size = w.heap.size + 4

theorem Fill.step {w wr : World} {n k : Nat} {l : List Int} (h : Fill w n l k wr) (hk : k < n) :
    Fill w n l (k + 1) (((wr.setCell ⟨w.heap.size + 1, k, none⟩ (.int .i64 (k : Int))).setCell ⟨w.heap.size + 1 + 1, k, none⟩ (.int .i64 (l.getD k 0 + 1))).drew) := by
  refine ⟨((h.bd.setCell (by simp) _).setCell (by simp; omega) _).trans (Bd.drew _), ?_, ?_, ?_, ?_, ?_⟩
  · exact set_far _ _ _ _ (by dsimp only; omega) (set_far _ _ _ _ (by dsimp only; omega) h.n0)
  · refine set_far _ _ _ _ (by dsimp only; omega) ?_
    rw [row_set h.od, tab_row_set n _ (fun i => if i < k + 1 then (i : Int) else 0) k _ (by simp) (fun j _ hj => by
      by_cases h1 : j < k
      · rw [if_pos h1, if_pos (by omega)]
      · rw [if_neg h1, if_neg (by omega)])]
  · refine (row_set (set_far _ _ _ _ (by dsimp only; omega) h.nm) _ _).trans ?_
    rw [tab_row_set n _ (fun i => if i < k + 1 then l.getD i 0 + 1 else 0) k _ (by simp) (fun j _ hj => by
      by_cases h1 : j < k
      · rw [if_pos h1, if_pos (by omega)]
      · rw [if_neg h1, if_neg (by omega)])]
  · exact set_far _ _ _ _ (by dsimp only; omega) (set_far _ _ _ _ (by dsimp only; omega) h.ns)
  · show ((wr.setCell _ _).setCell _ _).heap.size = _
    rw [size_set, size_set]
    exact h.sz

theorem Mem.od_congr {w : World} {B n : Nat} {od od' nm ff : Nat → Int} {s : Nat} {W : World} (h : Mem w B n od nm ff s W) (hc : ∀ i, i ≤ n → od' i = od i) : Mem w B n od' nm ff s W := by
  have e : tab n od' = tab n od := by
    unfold tab
    exact List.map_congr_left fun i hi => hc i (by have := List.mem_range.1 hi; omega)
  exact ⟨h.hB, h.bd, h.n0, by rw [e]; exact h.od, h.nm, h.ns, h.st, h.bh, h.ky, h.ff⟩

/-- What stands when the label is come to. -/
theorem Fill.mem {w wr : World} {n : Nat} {l : List Int} (h : Fill w n l n wr) (W : World)
    (hW : W = ((((wr.setCell ⟨w.heap.size + 1, n, none⟩ (.int .i64 (n : Int))).alloc (.cells #[.int .i64 1] 3)).alloc (.cells #[.func (.func 26) #[] #[.pointer (some ⟨w.heap.size, 0, none⟩), .pointer (some ⟨w.heap.size + 3, 0, none⟩)]] 50)).alloc (.cells #[.func (.func 27) #[] #[.pointer (some ⟨w.heap.size + 3, 0, none⟩), .pointer (some ⟨w.heap.size + 5, 0, none⟩), .pointer (some ⟨w.heap.size + 4, 0, none⟩)]] 53)).alloc (.cells (rowOf (List.replicate (n + 1) 0)) 3)) :
    Mem w w.heap.size n (fun i => (i : Int)) (fun i => if i < n then l.getD i 0 + 1 else 0) (fun _ => 0) 1 W := by
  obtain ⟨X, hX⟩ : ∃ X, X = wr.setCell ⟨w.heap.size + 1, n, none⟩ (.int .i64 (n : Int)) := ⟨_, rfl⟩
  have hsz : X.heap.size = w.heap.size + 4 := by rw [hX, size_set]; exact h.sz
  rw [← hX] at hW
  obtain ⟨q1, q2, q3, q4, q5⟩ := four_alloc X (.cells #[.int .i64 1] 3) (.cells #[.func (.func 26) #[] #[.pointer (some ⟨w.heap.size, 0, none⟩), .pointer (some ⟨w.heap.size + 3, 0, none⟩)]] 50) (.cells #[.func (.func 27) #[] #[.pointer (some ⟨w.heap.size + 3, 0, none⟩), .pointer (some ⟨w.heap.size + 5, 0, none⟩), .pointer (some ⟨w.heap.size + 4, 0, none⟩)]] 53) (.cells (rowOf (List.replicate (n + 1) 0)) 3)
  rw [← hW] at q1 q2 q3 q4 q5
  rw [hsz] at q1 q2 q3 q4
  have bX : Bd X W := by rw [hW]; exact (((Bd.alloc X _).trans (Bd.alloc _ _)).trans (Bd.alloc _ _)).trans (Bd.alloc _ _)
  have g : ∀ k, k < 4 → W.heap[w.heap.size + k]? = X.heap[w.heap.size + k]? := fun k hk => bX.below.block _ (by omega)
  have gx : ∀ k, k ≠ 1 → X.heap[w.heap.size + k]? = wr.heap[w.heap.size + k]? := fun k hk => by rw [hX]; exact set_far _ _ _ _ (by simp; omega) rfl
  refine ⟨Nat.le_refl _, Bd.trans (by rw [hX]; exact h.bd.setCell (by simp) _) bX, (g 0 (by omega)).trans ((gx 0 (by omega)).trans h.n0), ?_, (g 2 (by omega)).trans ((gx 2 (by omega)).trans h.nm), (g 3 (by omega)).trans ((gx 3 (by omega)).trans h.ns), q1, q2, q3, ?_⟩
  · rw [g 1 (by omega), hX, row_set h.od, tab_row_set n _ (fun i => (i : Int)) n _ rfl (fun j hj hne => by rw [if_pos (by omega)])]
  · refine q4.trans ?_
    congr 2
    unfold tab
    congr 1
    apply List.ext_getElem?
    intro i
    simp [List.getElem?_replicate, List.getElem?_range]
    split <;> simp_all

set_option maxHeartbeats 16000000 in
set_option maxRecDepth 100000 in
theorem array_any (A : Option Addr) (n c : Nat) (l : List Int) (w : World) (hn : n ≤ 8192) (hl : l.length = n) (hA : ∀ k, k < n → ∃ ad, A = some ad ∧ w.cell? (ad.add k) = some (.int .u8 (l.getD k 0))) (hb8 : ∀ k, k < n → 0 ≤ l.getD k 0 ∧ l.getD k 0 < 256)
    (I : Array (Fin (n + 1)) → (Nat → Int) → Nat → Prop) (Good : Array (Fin (n + 1)) → Prop)
    (hI0 : I (Array.ofFn fun i : Fin (n + 1) => i) (fun i => if i < n then l.getD i 0 + 1 else 0) 1)
    (hnod : ∀ d nm s, I d nm s → d.toList.Nodup)
    (hstep : ∀ d nm s d', I d nm s → 1 ≤ s → d'.size = n + 1 → d'.toList.Perm d.toList → (∀ i j, i < j → j < n + 1 → ¬ klt nm n s d'[j]!.val d'[i]!.val) →
      (rnk nm n s d' n < n → s ≤ n → ∀ ff : Nat → Int, (∀ i, i ≤ n → ff d'[i]!.val = rnk nm n s d' i) → I d' ff (s * 2)) ∧ (¬ (rnk nm n s d' n < n ∧ s ≤ n) → Good d')) :
    Calls Try.prog 20 #[.slice A n c] w fun e w' => e = .returned (.tuple #[.slice (some ⟨w.heap.size + 1, 0, none⟩) (n + 1) (n + 1), .int .i64 0]) ∧ ∃ d' nm ff s, d'.size = n + 1 ∧ Good d' ∧ Mem w w.heap.size n (fun k => (d'[k]!.val : Int)) nm ff s w' := by
  have h1 : decide ((8192 : Int) < (n : Int)) = false := decide_eq_false (by omega)
  have h2 : decide (8192 < n) = false := decide_eq_false (by omega)
  go_enter Try.func20, Try.ntmps20
  go_wp2
  refine wp_scope_again 0 (Pre w A n c w.heap.size I) (fun _ W => muOf w.heap.size W) rfl ?pass ?first
  case pass =>
    clear h1 h2 hA hb8 hl hI0
    rintro a W ⟨⟨u, rfl⟩, d, nm, ff, s, hd, hs1, hs2, hM, hI⟩
    have HI := Lib.hid hI
    have HMU := Lib.hid (one_cell hM.st).1
    have HST := Lib.hid hstep
    clear hI hstep
    go_wp2_with (go_at_call 28; refine (sort_any hM hn hs2 d hd (fun _ _ => rfl)).mono ?_; rintro e w' ⟨rfl, d', hd', hp, hsd, hM'⟩)
    have hN : d'.toList.Nodup := hp.nodup_iff.2 (hnod d nm s HI.out)
    have hinj : ∀ i j, i < j → j < n + 1 → d'[i]!.val ≠ d'[j]!.val := fun i j hij hj e => by
      have e2 : d'[i]! = d'[j]! := Fin.ext e
      rw [getElem!_pos d' i (by omega), getElem!_pos d' j (by omega)] at e2
      exact List.pairwise_iff_getElem.1 hN i j (by simp; omega) (by simp; omega) hij (by simpa using e2)
    have HP := Lib.hid hp; have HSD := Lib.hid hsd; have HINJ := Lib.hid hinj
    clear hp hsd hinj hN hM
    go_loopw [57, 12] (fun vi vl wr => ∃ k : Nat, k ≤ n + 1 ∧ vi = .int .i64 (k : Int) ∧ vl = .int .i64 (lastOf nm n s d' k : Int) ∧ ∃ fk : Nat → Int, (∀ i, i < k → fk d'[i]!.val = rnk nm n s d' i) ∧ Mem w w.heap.size n (fun k => (d'[k]!.val : Int)) nm fk s wr) (fun vi _ _ => n + 1 - (intOf vi).toNat)
    case atStart => exact ⟨0, Nat.zero_le _, rfl, rfl, ff, fun i hi => absurd hi (Nat.not_lt_zero _), hM'⟩
    case round =>
      obtain ⟨k, hk, rfl, rfl, fk, hfk, hMk⟩ := hrel
      by_cases hlt : k < n + 1
      · obtain ⟨x, hxe⟩ : ∃ x, x = d'[k]!.val := ⟨_, rfl⟩
        have hxn : x ≤ n := by have := (d'[k]!).isLt; omega
        have e1 := (row_cells hMk.od k (by omega)).1
        rw [← hxe] at e1
        obtain ⟨e2, e3⟩ := row_cells hMk.ff x hxn
        have hlt' : (k : Int) < (n : Int) + 1 := by omega
        by_cases hk0 : k = 0
        · subst hk0
          have HD := Lib.hid fun W' v (hb : Bd wr W') (hv : v = (rnk nm n s d' 0 : Int)) => round_done hMk HINJ.out hlt hfk hb hv hxe
          clear hfk hMk hxe
          generalize hla : (lastOf nm n s d' 0 : Int) = la
          have HLA := Lib.hid hla
          clear hla
          go_wp2
          go_quiet (fail)
          go_wp2
          obtain ⟨fk', hf1, hf2⟩ := HD.out (wr.drewN nq) la (Bd.drewN wr nq) (by rw [← HLA.out]; rfl)
          exact ⟨⟨1, by omega, rfl, by rw [← HLA.out]; rfl, fk', hf1, hf2⟩, by simp [intOf]⟩
        · obtain ⟨j, rfl⟩ : ∃ j, k = j + 1 := ⟨k - 1, by omega⟩
          obtain ⟨y, hye⟩ : ∃ y, y = d'[j]!.val := ⟨_, rfl⟩
          have hyn : y ≤ n := by have := (d'[j]!).isLt; omega
          have e0 := (row_cells hMk.od j (by omega)).1
          rw [← hye] at e0
          have HM := Lib.hid hMk
          have HF := Lib.hid hfk; have HX := Lib.hid hxe; have HY := Lib.hid hye
          clear hfk hMk hxe hye
          generalize hla : (lastOf nm n s d' (j + 1) : Int) = la
          have HLA := Lib.hid hla
          clear hla
          have HKEY : Hid (∀ (z : Nat) (w1 : World), z ≤ n → Bd wr w1 → Calls Try.prog 27 #[.int .i64 (z : Int), .pointer (some ⟨w.heap.size + 3, 0, none⟩), .pointer (some ⟨w.heap.size + 5, 0, none⟩), .pointer (some ⟨w.heap.size + 4, 0, none⟩)] w1 fun e w' => e = .returned (.agg #[.int .i64 (k1 nm z), .int .i64 (k2 nm n s z)]) ∧ Bd w1 w') := Lib.hid fun z w1 hz hb => by
            have h' := (HM.out.later hb).env
            have hc := key_any n (tab n nm) (w.heap.size + 3) (w.heap.size + 5) (w.heap.size + 4) w.heap.size (w.heap.size + 2) z s w1 hn hs2 hz h'.h1 h'.h2 h'.h3 h'.h4 h'.h5
            rw [tab_getD n nm z hz, beh_k2] at hc
            exact hc
          go_wp2
          refine wp_region_inv (by kernel_rfl) (by kernel_rfl) (RJ wr (w.heap.size + 1) (kfn (w.heap.size + 3) (w.heap.size + 5) (w.heap.size + 4)) (.agg #[.int .i64 (k1 nm y), .int .i64 (k2 nm n s y)]) (.agg #[.int .i64 (k1 nm x), .int .i64 (k2 nm n s x)]) j y x (kne nm n s y x) (.slice (some ⟨w.heap.size + 1, 0, none⟩) (n + 1) (n + 1)) (fun v62 v63 v64 v65 v66 v67 v68 v69 v70 v71 v72 v73 v74 v75 v76 => #[.slice A n c, u 1, .slice none 0 0, .int .i64 0, .pointer (some ⟨w.heap.size, 0, none⟩), .slice (some ⟨w.heap.size + 1, 0, none⟩) (n + 1) (n + 1), .pointer (some ⟨w.heap.size + 3, 0, none⟩), u 7, .pointer (some ⟨w.heap.size + 4, 0, none⟩), .pointer (some ⟨w.heap.size + 5, 0, none⟩), .pointer (some ⟨w.heap.size + 6, 0, none⟩), .slice (some ⟨w.heap.size + 7, 0, none⟩) (n + 1) (n + 1), .int .i64 la, .int .i64 ((j + 1 : Nat) : Int), .int .i64 (x : Int), u 15, u 16, u 17, u 18, u 19, u 20, u 21, u 22, u 23, u 24, u 25, u 26, u 27, u 28, u 29, u 30, u 31, u 32, u 33, u 34, u 35, u 36, u 37, u 38, u 39, u 40, u 41, u 42, u 43, u 44, u 45, u 46, u 47, u 48, u 49, u 50, u 51, .slice (some ⟨w.heap.size + 1, 0, none⟩) (n + 1) (n + 1), .func (.func 29) #[] #[.pointer (some ⟨w.heap.size + 6, 0, none⟩)], .tuple #[], .slice (some ⟨w.heap.size + 1, 0, none⟩) (n + 1) (n + 1), .int .i64 ((n : Int) + 1), .int .i64 ((j + 1 : Nat) : Int), .bool (decide (j < n)), .int .i64 ((j + 1 : Nat) : Int), .pointer (some ⟨w.heap.size + 1, j + 1, none⟩), .int .i64 (x : Int), v62, v63, v64, v65, v66, v67, v68, v69, v70, v71, v72, v73, v74, v75, v76, u77, u78, u79, u80, u81, u82, u83, u 84, u 85, u 86, u 87, u 88, u 89, u 90, u 91, u 92, u 93, u 94, u 95, u 96, u 97])) ?h0 ?hstep ?hend
          case h0 => exact ⟨_, _, _, _, _, _, _, _, _, _, _, _, _, _, _, rfl, nofun, nofun, nofun, nofun, nofun, nofun, nofun, nofun, nofun, nofun, nofun, nofun, nofun, nofun, nofun, Bd.drew wr⟩
          case hstep =>

            intro L a' w' i o hI ho hL hall
            obtain ⟨v62, v63, v64, v65, v66, v67, v68, v69, v70, v71, v72, v73, v74, v75, v76, rfl, p0, p1, p2, p3, p4, p5, p6, p7, p8, p9, p10, p11, p12, p13, p14, hb⟩ := hI
            have hi : i < 15 := (Array.getElem?_eq_some_iff.1 ho).1
            rcases (by omega : i = 0 ∨ i = 1 ∨ i = 2 ∨ i = 3 ∨ i = 4 ∨ i = 5 ∨ i = 6 ∨ i = 7 ∨ i = 8 ∨ i = 9 ∨ i = 10 ∨ i = 11 ∨ i = 12 ∨ i = 13 ∨ i = 14) with rfl | rfl | rfl | rfl | rfl | rfl | rfl | rfl | rfl | rfl | rfl | rfl | rfl | rfl | rfl
            · simp only [List.getElem?_toArray, List.getElem?_cons_zero, List.getElem?_cons_succ, Option.some.injEq] at ho
              subst ho
              dsimp only
              simp only [Region.wanted, if_true]
              unfold Oper.wp
              go_simp
              exact ⟨_, _, _, _, _, _, _, _, _, _, _, _, _, _, _, rfl, fun _ => rfl, p1, p2, p3, p4, p5, p6, p7, p8, p9, p10, p11, p12, p13, p14, hb⟩
            · simp only [List.getElem?_toArray, List.getElem?_cons_zero, List.getElem?_cons_succ, Option.some.injEq] at ho
              subst ho
              dsimp only
              have e0 := p0 (hall ⟨0, .data⟩ (by simp) rfl)
              subst e0
              simp only [Region.wanted, if_true]
              unfold Oper.wp
              go_simp
              exact ⟨_, _, _, _, _, _, _, _, _, _, _, _, _, _, _, rfl, fun _ => rfl, fun _ => (by first | rfl | (congr 1; omega) | simp), p2, p3, p4, p5, p6, p7, p8, p9, p10, p11, p12, p13, p14, hb⟩
            · simp only [List.getElem?_toArray, List.getElem?_cons_zero, List.getElem?_cons_succ, Option.some.injEq] at ho
              subst ho
              dsimp only
              have e1 := p1 (hall ⟨1, .data⟩ (by simp) rfl)
              subst e1
              simp only [Region.wanted, if_true]
              unfold Oper.wp
              go_simp
              exact ⟨_, _, _, _, _, _, _, _, _, _, _, _, _, _, _, rfl, p0, fun _ => rfl, fun _ => rfl, p3, p4, p5, p6, p7, p8, p9, p10, p11, p12, p13, p14, hb⟩
            · simp only [List.getElem?_toArray, List.getElem?_cons_zero, List.getElem?_cons_succ, Option.some.injEq] at ho
              subst ho
              dsimp only
              have e2 := p2 (hall ⟨2, .guard⟩ (by simp) rfl)
              subst e2
              simp only [Region.wanted, yielded, List.getElem?_toArray, List.getElem?_cons_zero, List.getElem?_cons_succ, Option.bind_some, beq_self_eq_true, if_true]
              unfold Oper.wp
              have hc := (HM.out.later hb).env.hk
              go_simp
              exact ⟨_, _, _, _, _, _, _, _, _, _, _, _, _, _, _, rfl, p0, p1, fun _ => rfl, fun _ => rfl, p4, p5, p6, p7, p8, p9, p10, p11, p12, p13, p14, hb⟩
            · simp only [List.getElem?_toArray, List.getElem?_cons_zero, List.getElem?_cons_succ, Option.some.injEq] at ho
              subst ho
              dsimp only
              have e2 := p2 (hall ⟨2, .guard⟩ (by simp) rfl)
              subst e2
              simp only [Region.wanted, yielded, List.getElem?_toArray, List.getElem?_cons_zero, List.getElem?_cons_succ, Option.bind_some, beq_self_eq_true, if_true]
              unfold Oper.wp
              go_simp
              exact ⟨_, _, _, _, _, _, _, _, _, _, _, _, _, _, _, rfl, p0, p1, fun _ => rfl, p3, fun _ => rfl, p5, p6, p7, p8, p9, p10, p11, p12, p13, p14, hb⟩
            · simp only [List.getElem?_toArray, List.getElem?_cons_zero, List.getElem?_cons_succ, Option.some.injEq] at ho
              subst ho
              dsimp only
              have e2 := p2 (hall ⟨2, .guard⟩ (by simp) rfl)
              subst e2
              simp only [Region.wanted, yielded, List.getElem?_toArray, List.getElem?_cons_zero, List.getElem?_cons_succ, Option.bind_some, beq_self_eq_true, if_true]
              unfold Oper.wp
              go_simp
              exact ⟨_, _, _, _, _, _, _, _, _, _, _, _, _, _, _, rfl, p0, p1, fun _ => rfl, p3, p4, fun _ => rfl, p6, p7, p8, p9, p10, p11, p12, p13, p14, hb⟩
            · simp only [List.getElem?_toArray, List.getElem?_cons_zero, List.getElem?_cons_succ, Option.some.injEq] at ho
              subst ho
              dsimp only
              have e5 := p5 (hall ⟨5, .data⟩ (by simp) rfl)
              subst e5
              have e2 := p2 (hall ⟨2, .guard⟩ (by simp) rfl)
              subst e2
              simp only [Region.wanted, yielded, List.getElem?_toArray, List.getElem?_cons_zero, List.getElem?_cons_succ, Option.bind_some, beq_self_eq_true, if_true]
              unfold Oper.wp
              have hwr : IntKind.i64.wrap (j : Int) = (j : Int) := Go.IntWalk.i64_in _ (by omega)
              go_simp
              exact ⟨_, _, _, _, _, _, _, _, _, _, _, _, _, _, _, rfl, p0, p1, fun _ => rfl, p3, p4, fun _ => rfl, fun _ => (by first | rfl | (congr 1; omega) | simp), p7, p8, p9, p10, p11, p12, p13, p14, hb⟩
            · simp only [List.getElem?_toArray, List.getElem?_cons_zero, List.getElem?_cons_succ, Option.some.injEq] at ho
              subst ho
              dsimp only
              have e4 := p4 (hall ⟨4, .data⟩ (by simp) rfl)
              subst e4
              have e6 := p6 (hall ⟨6, .data⟩ (by simp) rfl)
              subst e6
              have e2 := p2 (hall ⟨2, .guard⟩ (by simp) rfl)
              subst e2
              simp only [Region.wanted, yielded, List.getElem?_toArray, List.getElem?_cons_zero, List.getElem?_cons_succ, Option.bind_some, beq_self_eq_true, if_true]
              unfold Oper.wp
              have hlj : (j : Int) < (n : Int) + 1 := by omega
              go_simp
              exact ⟨_, _, _, _, _, _, _, _, _, _, _, _, _, _, _, rfl, p0, p1, fun _ => rfl, p3, fun _ => rfl, p5, fun _ => rfl, fun _ => (by first | rfl | (congr 1; omega) | simp), p8, p9, p10, p11, p12, p13, p14, hb⟩
            · simp only [List.getElem?_toArray, List.getElem?_cons_zero, List.getElem?_cons_succ, Option.some.injEq] at ho
              subst ho
              dsimp only
              have e7 := p7 (hall ⟨7, .data⟩ (by simp) rfl)
              subst e7
              have e2 := p2 (hall ⟨2, .guard⟩ (by simp) rfl)
              subst e2
              simp only [Region.wanted, yielded, List.getElem?_toArray, List.getElem?_cons_zero, List.getElem?_cons_succ, Option.bind_some, beq_self_eq_true, if_true]
              unfold Oper.wp
              have hc := hb.cell e0
              go_simp
              exact ⟨_, _, _, _, _, _, _, _, _, _, _, _, _, _, _, rfl, p0, p1, fun _ => rfl, p3, p4, p5, p6, fun _ => rfl, fun _ => rfl, p9, p10, p11, p12, p13, p14, hb⟩
            · simp only [List.getElem?_toArray, List.getElem?_cons_zero, List.getElem?_cons_succ, Option.some.injEq] at ho
              subst ho
              dsimp only
              have e3 := p3 (hall ⟨3, .data⟩ (by simp) rfl)
              subst e3
              have e8 := p8 (hall ⟨8, .data⟩ (by simp) rfl)
              subst e8
              have e2 := p2 (hall ⟨2, .guard⟩ (by simp) rfl)
              subst e2
              simp only [Region.wanted, yielded, List.getElem?_toArray, List.getElem?_cons_zero, List.getElem?_cons_succ, Option.bind_some, beq_self_eq_true, if_true]
              unfold Oper.wp
              unfold kfn
              go_simp
              refine (HKEY.out y _ hyn hb).mono ?_
              rintro e w'' ⟨rfl, hb'⟩
              exact ⟨_, _, _, _, _, _, _, _, _, _, _, _, _, _, _, rfl, p0, p1, fun _ => rfl, fun _ => rfl, p4, p5, p6, p7, fun _ => rfl, fun _ => rfl, p10, p11, p12, p13, p14, hb.trans hb'⟩
            · simp only [List.getElem?_toArray, List.getElem?_cons_zero, List.getElem?_cons_succ, Option.some.injEq] at ho
              subst ho
              dsimp only
              have e2 := p2 (hall ⟨2, .guard⟩ (by simp) rfl)
              subst e2
              simp only [Region.wanted, yielded, List.getElem?_toArray, List.getElem?_cons_zero, List.getElem?_cons_succ, Option.bind_some, beq_self_eq_true, if_true]
              unfold Oper.wp
              have hc := (HM.out.later hb).env.hk
              go_simp
              exact ⟨_, _, _, _, _, _, _, _, _, _, _, _, _, _, _, rfl, p0, p1, fun _ => rfl, p3, p4, p5, p6, p7, p8, p9, fun _ => rfl, p11, p12, p13, p14, hb⟩
            · simp only [List.getElem?_toArray, List.getElem?_cons_zero, List.getElem?_cons_succ, Option.some.injEq] at ho
              subst ho
              dsimp only
              have e2 := p2 (hall ⟨2, .guard⟩ (by simp) rfl)
              subst e2
              simp only [Region.wanted, yielded, List.getElem?_toArray, List.getElem?_cons_zero, List.getElem?_cons_succ, Option.bind_some, beq_self_eq_true, if_true]
              unfold Oper.wp
              go_simp
              exact ⟨_, _, _, _, _, _, _, _, _, _, _, _, _, _, _, rfl, p0, p1, fun _ => rfl, p3, p4, p5, p6, p7, p8, p9, p10, fun _ => rfl, p12, p13, p14, hb⟩
            · simp only [List.getElem?_toArray, List.getElem?_cons_zero, List.getElem?_cons_succ, Option.some.injEq] at ho
              subst ho
              dsimp only
              have e10 := p10 (hall ⟨10, .data⟩ (by simp) rfl)
              subst e10
              have e11 := p11 (hall ⟨11, .data⟩ (by simp) rfl)
              subst e11
              have e2 := p2 (hall ⟨2, .guard⟩ (by simp) rfl)
              subst e2
              simp only [Region.wanted, yielded, List.getElem?_toArray, List.getElem?_cons_zero, List.getElem?_cons_succ, Option.bind_some, beq_self_eq_true, if_true]
              unfold Oper.wp
              unfold kfn
              go_simp
              refine (HKEY.out x _ hxn hb).mono ?_
              rintro e w'' ⟨rfl, hb'⟩
              exact ⟨_, _, _, _, _, _, _, _, _, _, _, _, _, _, _, rfl, p0, p1, fun _ => rfl, p3, p4, p5, p6, p7, p8, p9, fun _ => rfl, fun _ => rfl, fun _ => rfl, p13, p14, hb.trans hb'⟩
            · simp only [List.getElem?_toArray, List.getElem?_cons_zero, List.getElem?_cons_succ, Option.some.injEq] at ho
              subst ho
              dsimp only
              have e9 := p9 (hall ⟨9, .data⟩ (by simp) rfl)
              subst e9
              have e12 := p12 (hall ⟨12, .data⟩ (by simp) rfl)
              subst e12
              have e2 := p2 (hall ⟨2, .guard⟩ (by simp) rfl)
              subst e2
              simp only [Region.wanted, yielded, List.getElem?_toArray, List.getElem?_cons_zero, List.getElem?_cons_succ, Option.bind_some, beq_self_eq_true, if_true]
              unfold Oper.wp
              have hq := eq_pair (k1 nm y) (k2 nm n s y) (k1 nm x) (k2 nm n s x) w'
              go_simp
              exact ⟨_, _, _, _, _, _, _, _, _, _, _, _, _, _, _, rfl, p0, p1, fun _ => rfl, p3, p4, p5, p6, p7, p8, fun _ => rfl, p10, p11, fun _ => rfl, fun _ => (by unfold kne; first | rfl | simp), p14, hb⟩
            · simp only [List.getElem?_toArray, List.getElem?_cons_zero, List.getElem?_cons_succ, Option.some.injEq] at ho
              subst ho
              dsimp only
              have e2 := p2 (hall ⟨2, .data⟩ (by simp) rfl)
              subst e2
              have e13 := p13 (hall ⟨13, .data⟩ (by simp) rfl)
              subst e13
              simp only [Region.wanted, if_true]
              unfold Oper.wp
              go_simp
              exact ⟨_, _, _, _, _, _, _, _, _, _, _, _, _, _, _, rfl, p0, p1, fun _ => rfl, p3, p4, p5, p6, p7, p8, p9, p10, p11, p12, fun _ => rfl, fun _ => rfl, hb⟩
          case hend =>
            intro L a' w' hI hall
            obtain ⟨v62, v63, v64, v65, v66, v67, v68, v69, v70, v71, v72, v73, v74, v75, v76, rfl, p0, p1, p2, p3, p4, p5, p6, p7, p8, p9, p10, p11, p12, p13, p14, hb⟩ := hI
            have e14 := p14 (hall 14 (by decide))
            subst e14
            clear p0 p1 p2 p3 p4 p5 p6 p7 p8 p9 p10 p11 p12 p13 p14 hall
            clear e1 e2 e3
            obtain ⟨e2, e3⟩ := row_cells (HM.out.later hb).ff x hxn
            have hla1 : (rnk nm n s d' j : Int) = la := by rw [← HLA.out]; rfl
            have hrk : rnk nm n s d' (j + 1) = if kne nm n s y x = true then rnk nm n s d' j + 1 else rnk nm n s d' j := by rw [HX.out, HY.out]; rfl
            have HD : ∀ v, v = (rnk nm n s d' (j + 1) : Int) → _ := fun v hv => round_done HM.out HINJ.out hlt HF.out hb hv HX.out
            have hlab : 0 ≤ la ∧ la ≤ n := by
              rw [← hla1]
              have := rnk_le nm n s d' j
              omega
            obtain ⟨hl0, hl9⟩ := hlab
            have HD2 := Lib.hid HD; have HR := Lib.hid hrk; have HL1 := Lib.hid hla1
            clear HD hrk hla1 hb e0
            rename_i Q1 K1 HK1
            dsimp only
            refine HK1 _ _ ?_
            cases hne : kne nm n s y x with
            | true =>
              have HN := Lib.hid hne
              clear hne
              go_wp2
              obtain ⟨fk', hf1, hf2⟩ := HD2.out (la + 1) (by rw [HR.out, if_pos HN.out, ← HL1.out]; rfl)
              go_roundw
              case measure => simp [intOf]; omega
              case rel =>
              repeat apply Exists.intro
              refine ⟨?rel2, ?fr⟩
              case fr => exact rfl
              case rel2 =>
              refine ⟨j + 1 + 1, by omega, by go_num, ?_, fk', hf1, hf2⟩
              show Value.int IntKind.i64 (la + 1) = Value.int IntKind.i64 (rnk nm n s d' (j + 1) : Int)
              rw [HR.out, if_pos HN.out, ← HL1.out]; rfl
            | false =>
              have HN := Lib.hid hne
              clear hne
              go_wp2
              obtain ⟨fk', hf1, hf2⟩ := HD2.out la (by rw [HR.out, if_neg (by rw [HN.out]; decide), ← HL1.out])
              go_roundw
              case measure => simp [intOf]; omega
              case rel =>
              repeat apply Exists.intro
              refine ⟨?rel2, ?fr⟩
              case fr => exact rfl
              case rel2 =>
              refine ⟨j + 1 + 1, by omega, by go_num, ?_, fk', hf1, hf2⟩
              show Value.int IntKind.i64 la = Value.int IntKind.i64 (rnk nm n s d' (j + 1) : Int)
              rw [HR.out, if_neg (by rw [HN.out]; decide), ← HL1.out]
      · obtain rfl : k = n + 1 := by omega
        have hlt' : ¬ ((n + 1 : Nat) : Int) < (n : Int) + 1 := by omega
        have hff : ∀ i, i ≤ n → fk d'[i]!.val = rnk nm n s d' i := fun i hi => hfk i (by omega)
        obtain ⟨hcont, hstop⟩ := HST.out d nm s d' HI.out hs1 hd' HP.out HSD.out
        have hcp := fun ty => copy_run hMk ty
        have hM2 := hMk.copied
        have hla0 : (lastOf nm n s d' (n + 1) : Int) = (rnk nm n s d' n : Int) := rfl
        rw [hla0]
        have hln := rnk_le nm n s d' n
        have en := (one_cell hMk.ns).1
        have HFF := Lib.hid hff; have HC := Lib.hid hcont; have HS := Lib.hid hstop; have HM2 := Lib.hid hM2
        clear hfk hff hcont hstop hM2 hla0 hMk
        have c1 := (one_cell HM2.out.n0).1
        have c2 := (one_cell HM2.out.st).1
        obtain ⟨c3, c4⟩ := one_cell HM2.out.st
        clear c3
        by_cases q1 : rnk nm n s d' n < n
        · by_cases q2 : s ≤ n
          · have HQ := Lib.hid (HC.out q1 q2 fk HFF.out)
            have HMS := Lib.hid (HM2.out.stepped (s * 2))
            clear hln
            generalize hr : rnk nm n s d' n = r at q1
            clear hr HC HS HFF
            go_wp2
            go_step3
            have hM3 := HMS.out
            rw [show (((s * 2 : Nat) : Int)) = (s : Int) * 2 from Int.natCast_mul s 2] at hM3
            show 0 = 0 ∧ (Pre w A n c w.heap.size I _ _ ∧ muOf w.heap.size _ < muOf w.heap.size W)
            refine ⟨rfl, ⟨⟨fun i => (#[undef, _, undef, undef, undef, undef, undef, _, undef, undef, undef, undef, _, _, _, _, _, _, _, _, _, _, _, _, _, _, _, _, _, _, _, _, _, _, _, _, _, _, _, _, _, _, _, _, _, _, _, _, _, _, _, _, _, _, _, _, _, _, _, _, _, _, _, _, _, _, _, _, _, _, _, _, _, _, _, _, _, _, _, _, _, _, _, _, _, _, _, _, _, _, _, _, _, _, _, _, _, _] : Array Value).getD i undef, rfl⟩, d', fk, fk, s * 2, hd', by omega, by omega, HMS.out, HQ.out⟩, ?_⟩
            have z1 := (one_cell HMS.out.st).1
            unfold muOf
            rw [HMU.out]
            rw [show (Value.int .i64 ((s : Int) * 2)) = Value.int .i64 ((s * 2 : Nat) : Int) from rfl, z1]
            simp only
            omega
          · have HQ := Lib.hid (HS.out fun h => q2 h.2)
            clear HC HS HFF
            generalize hr : rnk nm n s d' n = r at q1 hln
            clear hr
            go_wp2
            simp only [Exit.jump]
            go_ret2
            exact ⟨rfl, d', fk, fk, s, hd', HQ.out, HM2.out⟩
        · have HQ := Lib.hid (HS.out fun h => q1 h.1)
          clear HC HS HFF
          generalize hr : rnk nm n s d' n = r at q1 hln
          clear hr
          go_wp2
          simp only [Exit.jump]
          go_ret2
          exact ⟨rfl, d', fk, fk, s, hd', HQ.out, HM2.out⟩
  case first =>
    intro hp
    have hmk := make_run n hn
    clear hstep
    go_wp2
    obtain ⟨W0, hW0⟩ : ∃ W0, W0 = (((w.alloc (Obj.cells #[Value.int IntKind.i64 ↑n] 3)).alloc (Obj.cells (rowOf (List.replicate (n + 1) 0)) 3)).alloc (Obj.cells (rowOf (List.replicate (n + 1) 0)) 3)).alloc (Obj.cells #[Value.slice (some { block := w.heap.size + 1 + 1, off := 0 }) (n + 1) (n + 1)] 23) := ⟨_, rfl⟩
    rw [← hW0]
    have F0 : Fill w n l 0 W0 := by
      have hz : rowOf (List.replicate (n + 1) 0) = rowOf (tab n fun i => if i < 0 then (i : Int) else 0) := by
        unfold tab; congr 1; apply List.ext_getElem? ; intro i; simp [List.getElem?_replicate, List.getElem?_range]; split <;> simp_all
      have hz2 : rowOf (List.replicate (n + 1) 0) = rowOf (tab n fun i => if i < 0 then l.getD i 0 + 1 else 0) := by
        unfold tab; congr 1; apply List.ext_getElem? ; intro i; simp [List.getElem?_replicate, List.getElem?_range]; split <;> simp_all
      have bd : Bd w W0 := by rw [hW0]; exact (((Bd.alloc w _).trans (Bd.alloc _ _)).trans (Bd.alloc _ _)).trans (Bd.alloc _ _)
      obtain ⟨q1, q2, q3, q4, q5⟩ := four_alloc w (Obj.cells #[Value.int IntKind.i64 ↑n] 3) (Obj.cells (rowOf (List.replicate (n + 1) 0)) 3) (Obj.cells (rowOf (List.replicate (n + 1) 0)) 3) (Obj.cells #[Value.slice (some { block := w.heap.size + 1 + 1, off := 0 }) (n + 1) (n + 1)] 23)
      rw [← hW0] at q1 q2 q3 q4 q5
      exact ⟨bd, q1, by rw [q2, hz], by rw [q3, hz2], q4, q5⟩
    clear hW0 hmk
    go_loopw [26] (fun v wr => ∃ k : Nat, k ≤ n ∧ v = .int .i64 (k : Int) ∧ Fill w n l k wr) (fun v _ => n - (intOf v).toNat)
    case atStart => exact ⟨0, Nat.zero_le _, rfl, F0⟩
    case round =>
      obtain ⟨k, hk, rfl, hF⟩ := hrel
      by_cases hlt : k < n
      · have hlt' : (k : Int) < (n : Int) := by omega
        have hlt2 : (k : Int) < (n : Int) + 1 := by omega
        obtain ⟨ad, rfl, hca⟩ := hA k hlt
        have e0 := (hF.bd.cell hca)
        have e1 := one_cell hF.n0
        have e2 := one_cell hF.ns
        have e3 := row_cells hF.od k (by omega)
        have e4 := row_cells hF.nm k (by omega)
        obtain ⟨e11, -⟩ := e1
        obtain ⟨e21, -⟩ := e2
        obtain ⟨e31, e32⟩ := e3
        obtain ⟨e41, e42⟩ := e4
        rw [if_neg (by omega)] at e31 e41
        have hb := hb8 k hlt
        have hst := hF.step hlt
        have hx : ∃ x, x = l.getD k 0 := ⟨_, rfl⟩
        obtain ⟨x, hx⟩ := hx
        rw [← hx] at e0 hb hst
        obtain ⟨hb1, hb2⟩ := hb
        have HF := Lib.hid hst
        clear hF hx hst
        go_wp2
        go_region
        go_wp2
        go_roundw
        case rel => exact ⟨k + 1, by omega, by go_num, HF.out⟩
        case measure => simp [intOf]; omega
      · obtain rfl : k = n := by omega
        have hlt' : ¬ (k : Int) < (k : Int) := by omega
        have hlt2 : (k : Int) < (k : Int) + 1 := by omega
        have hsz := hF.sz
        have e1 := (one_cell hF.n0).1
        obtain ⟨e3, e4⟩ := row_cells hF.od k (Nat.le_refl _)
        have hmk := make_run k hn
        have HM := Lib.hid hF.mem
        have HH := Lib.hid hI0
        clear hF hA hb8 F0 hI0
        go_wp2
        go_step3
        rename_i HK1
        refine HK1 _ _ ?_
        refine hp.out _ _ ?_
        refine ⟨⟨fun i => (#[undef, _, undef, undef, undef, undef, undef, _, undef, undef, undef, undef, _, _, _, _, _, _, _, _, _, _, _, _, _, _, _, _, _, _, _, _, _, _, _, _, _, _, _, _, _, _, _, _, _, _, _, _, _, _, _, _, _, _, _, _, _, _, _, _, _, _, _, _, _, _, _, _, _, _, _, _, _, _, _, _, _, _, _, _, _, _, _, _, _, _, _, _, _, _, _, _, _, _, _, _, _, _] : Array Value).getD i undef, rfl⟩, Array.ofFn fun i : Fin (k + 1) => i, fun i => if i < k then l.getD i 0 + 1 else 0, fun _ => 0, 1, by simp, Nat.le_refl _, by decide, (HM.out _ rfl).od_congr (fun i hi => ?_), HH.out⟩
        rw [getElem!_pos _ i (by simp; omega), Array.getElem_ofFn]
end Go.Proofs.Ytalhipjgafjmoaa.Suf
