-- written by a program of this project (print2)
import Derived.Test.YtalhipjgafjmoaaPBwtOncex0
import Derived.Test.YtalhipjgafjmoaaPBwtOncex1
import Derived.Test.YtalhipjgafjmoaaPBwtOncex2
namespace Go.Proofs.Ytalhipjgafjmoaa.PBwtOnce
open Go.RowKit Go.Proofs.YtalhipjgafjmoaaW.PrintMine Go.Proofs.YtalhipjgafjmoaaW.PrintWords Go.Proofs.YtalhipjgafjmoaaW.PrintLast Go.Proofs.YtalhipjgafjmoaaW.PrintMore
attribute [local go_sem] max2_int min2_int max_two min_two max_three min_three max_four min_four   -- for this text's walks alone
set_option linter.unusedVariables false
set_option linter.unusedSimpArgs false

-- with calls, making: yes
/-! ### bwt_Back: function 9, by hand -/
theorem rd_nat (l : List Int) (i : Nat) : rd l (i : Int) = l.getD i 0 := by simp [rd]
theorem w64_add (i : Nat) (h : i < 9000000000000000000) : wrap64 ((i : Int) + 1) = ((i + 1 : Nat) : Int) := by
  unfold wrap64
  omega
theorem w64_in (x : Int) (h : -9000000000000000000 < x) (h2 : x < 9000000000000000000) : wrap64 x = x := by
  unfold wrap64
  omega
open Go.Proofs.Ytalhipjgafjmoaa.Bwt in
theorem make_l0 (l C sa : List Int) (hs : ∀ p ∈ sa, 0 ≤ p ∧ p ≤ l.length) (hn : l.length ≤ 8192) (hsa : sa.length ≤ 8193) (c : Nat) : ∀ (m i : Nat) (last : List Int) (row : Int), i + m = sa.length → last.length ≤ i →
    bwt_Make.l0 (c + m + 1) l sa (sa.length : Int) (i : Int) last row C = some (last ++ lastOf l (sa.drop i), rowFrom (sa.drop i) i row, C, 0)
  | 0, i, last, row, h, hl => by
    unfold bwt_Make.l0
    rw [if_neg (by omega), List.drop_of_length_le (by omega)]
    simp [lastOf, rowFrom]
  | m + 1, i, last, row, h, hl => by
    unfold bwt_Make.l0
    have hi : i < sa.length := by omega
    rw [if_pos (by omega), if_pos (by omega), if_pos (by omega), rd_nat, w64_add i (by omega), drop_get sa i hi]
    unfold lastOf rowFrom
    have hp := hs (sa.getD i 0) (by rw [List.getD_eq_getElem?_getD, List.getElem?_eq_getElem hi]; exact List.getElem_mem hi)
    generalize sa.getD i 0 = p at hp
    by_cases h0 : p = 0
    · rw [if_pos h0, if_pos h0, if_pos h0]
      have ih := make_l0 l C sa hs hn hsa c m (i + 1) last (i : Int) (by omega) (by omega)
      rw [show ((i + 1 : Nat) : Int) = (i : Int) + 1 from rfl] at ih ⊢
      exact ih
    · rw [if_neg h0, if_neg h0, if_neg h0, w64_in (p - 1) (by omega) (by omega), if_pos (by omega), if_pos (by omega), if_pos (by omega)]
      have ih := make_l0 l C sa hs hn hsa c m (i + 1) (last ++ [rd l (p - 1)]) row (by omega) (by rw [List.length_append, List.length_singleton]; omega)
      rw [show ((i + 1 : Nat) : Int) = (i : Int) + 1 from rfl] at ih ⊢
      rw [show c + (m + 1) = c + m + 1 from rfl, ih, List.append_assoc]
      rfl
theorem sufs_mem (l : List Int) : ∀ p ∈ Go.Proofs.MathSuf.sufs l, 0 ≤ p ∧ p ≤ l.length := by
  intro p hp
  obtain ⟨q, hq, rfl⟩ := List.mem_map.1 hp
  have := List.mem_range.1 ((Go.Proofs.MathSuf.sufN_is l).perm.mem_iff.1 hq)
  omega
theorem all_bytes {l : List Int} (hb : ∀ x ∈ l, 0 ≤ x ∧ x < 256) : (l.all fun x => 0 ≤ x && x < 256) = true := by
  simp only [List.all_eq_true, Bool.and_eq_true, decide_eq_true_eq]
  exact hb
open Go.Proofs.Ytalhipjgafjmoaa.Bwt in
theorem make_f (l : List Int) (hb : ∀ x ∈ l, 0 ≤ x ∧ x < 256) (hn : l.length ≤ 8192) (c : Nat) : bwt_Make.f (c + (l.length + 1) + 1) l = some (mkLast l, mkRow l, fstTo l 256, 0) := by
  have e1 : suffix_Array.f l = some (Go.Proofs.MathSuf.sufs l, 0) := by
    unfold suffix_Array.f
    rw [if_pos (all_bytes hb), if_pos hn]
  have e2 : bwt_firsts.f l = some (fstTo l 256) := by
    unfold bwt_firsts.f
    rw [if_pos (all_bytes hb), if_pos (by omega)]
  unfold bwt_Make.f
  rw [e1, Option.bind_some, if_pos rfl, e2, Option.bind_some]
  have hl := Go.Proofs.MathSuf.sufs_length l
  have h := make_l0 l (fstTo l 256) _ (sufs_mem l) hn (by omega) c (l.length + 1) 0 [] 0 (by omega) (Nat.le_refl _)
  exact h
open Go.Proofs.Ytalhipjgafjmoaa.Bwt in
theorem steps_push (last : List Int) (row j : Nat) (v : Int) (hj : j ≤ last.length) (hv : stepAt last row j = v) : (stepsS last row).take j ++ [v] = (stepsS last row).take (j + 1) := by
  rw [List.take_add_one, List.getElem?_eq_getElem (by rw [stepsS_length]; omega)]
  have h := stepsS_get last row j hj
  rw [List.getD_eq_getElem?_getD, List.getElem?_eq_getElem (by rw [stepsS_length]; omega), hv] at h
  simp only [Option.getD_some] at h
  rw [h]
  rfl
open Go.Proofs.Ytalhipjgafjmoaa.Bwt in
def nx (last : List Int) (i : Nat) : List Int := (List.range 257).map fun c => fst last c + cnt last i c
open Go.Proofs.Ytalhipjgafjmoaa.Bwt in
theorem nx_get (last : List Int) (i c : Nat) (hc : c < 257) : (nx last i).getD c 0 = fst last c + cnt last i c := by
  unfold nx
  rw [List.getD_eq_getElem?_getD, List.getElem?_map, List.getElem?_range hc]
  rfl
open Go.Proofs.Ytalhipjgafjmoaa.Bwt in
theorem nx_set (last : List Int) (i c : Nat) (hi : i < last.length) (hc : last.getD i 0 = (c : Int)) (hlt : c < 257) : (nx last i).set c (fst last c + cnt last i c + 1) = nx last (i + 1) := by
  apply List.ext_getElem
  · simp [nx]
  · intro j h1 h2
    have hj : j < 257 := by simpa [nx] using h2
    rw [List.getElem_set]
    simp only [nx, List.getElem_map, List.getElem_range]
    rw [cnt_succ last i j hi, hc]
    by_cases e : c = j
    · subst e
      rw [if_pos rfl, if_pos rfl]
      omega
    · rw [if_neg e, if_neg (by omega)]
      omega
open Go.Proofs.Ytalhipjgafjmoaa.Bwt in
theorem steps_l0 (last C : List Int) (row : Nat) (hr : row ≤ last.length) (hb : ∀ x ∈ last, 0 ≤ x ∧ x < 256) (hn : last.length ≤ 8192) (c : Nat) : ∀ (m i : Nat), i + m = last.length →
    bwt_steps.l0 (c + m + 1) (nx last i) ((stepsS last row).take (if row < i then i + 1 else i)) last (last.length : Int) (i : Int) last (row : Int) C = some (stepsS last row)
  | 0, i, h => by
    unfold bwt_steps.l0
    have hl := stepsS_length last row
    rw [if_neg (by omega)]
    by_cases hlt : row < i
    · rw [if_pos hlt, if_neg (by rw [List.length_take]; omega), List.take_of_length_le (by omega)]
    · rw [if_neg hlt, if_pos (by rw [List.length_take]; omega), if_pos (by rw [List.length_take]; omega), steps_push last row i 0 (by omega) (by unfold stepAt; rw [if_pos (by omega)]), List.take_of_length_le (by omega)]
  | m + 1, i, h => by
    have hi : i < last.length := by omega
    have hl := stepsS_length last row
    have ih := steps_l0 last C row hr hb hn c m (i + 1) (by omega)
    have hbi := hb (last.getD i 0) (by rw [List.getD_eq_getElem?_getD, List.getElem?_eq_getElem hi]; exact List.getElem_mem hi)
    obtain ⟨x, hx⟩ : ∃ x : Nat, last.getD i 0 = (x : Int) := ⟨(last.getD i 0).toNat, by omega⟩
    have hf := fst_le last x
    have hcl := cnt_le last i x
    have hlen : (nx last i).length = 257 := by simp [nx]
    have he : entry last i = fst last x + cnt last i x := by unfold entry; rw [hx, Int.toNat_natCast]
    unfold bwt_steps.l0
    rw [if_pos (by omega), if_pos (by omega), if_pos (by omega), w64_add i (by omega), rd_nat last i, hx, rd_nat (nx last i) x, nx_get last i x (by omega), w64_in _ (by omega) (by omega), Int.toNat_natCast, nx_set last i x hi hx (by omega)]
    have hrec : ∀ y : List Int, y.length ≤ i + 1 → y ++ [fst last x + cnt last i x] = (stepsS last row).take (if row < i + 1 then i + 1 + 1 else i + 1) →
        (if 0 ≤ (x : Int) then (if (x : Int) < ((nx last i).length : Int) then (if y.length < 17592186044416 then bwt_steps.l0 (c + m + 1) (nx last (i + 1)) (y ++ [fst last x + cnt last i x]) last (last.length : Int) ((i + 1 : Nat) : Int) last (row : Int) C else none) else none) else none) = some (stepsS last row) := by
      intro y hy e
      rw [if_pos (by omega), if_pos (by omega), if_pos (by omega), e]
      exact ih
    by_cases e : i = row
    · subst e
      rw [if_pos rfl, if_neg (Nat.lt_irrefl _), if_pos (by rw [List.length_take]; omega)]
      simp only [Option.bind_some]
      rw [steps_push last i i 0 (by omega) (by unfold stepAt; rw [if_pos rfl])]
      refine hrec _ (by rw [List.length_take]; omega) ?_
      rw [if_pos (by omega)]
      refine steps_push last i (i + 1) _ (by omega) ?_
      unfold stepAt
      rw [if_neg (by omega), if_neg (by omega), ← he]
      rfl
    · rw [if_neg (by omega)]
      by_cases hlt : row < i
      · rw [if_pos hlt]
        refine hrec _ (by rw [List.length_take]; omega) ?_
        rw [if_pos (by omega)]
        refine steps_push last row (i + 1) _ (by omega) ?_
        unfold stepAt
        rw [if_neg (by omega), if_neg (by omega), ← he]
        rfl
      · rw [if_neg hlt]
        refine hrec _ (by rw [List.length_take]; omega) ?_
        rw [if_neg (by omega)]
        refine steps_push last row i _ (by omega) ?_
        unfold stepAt
        rw [if_neg (by omega), if_pos (by omega), ← he]
open Go.Proofs.Ytalhipjgafjmoaa.Bwt in
theorem steps_f (last C : List Int) (row : Int) (hr0 : 0 ≤ row) (hr : row ≤ last.length) (hb : ∀ x ∈ last, 0 ≤ x ∧ x < 256) (hn : last.length ≤ 8192) (c : Nat) : bwt_steps.f (c + last.length + 1) last row C = some (stepsS last row.toNat) := by
  obtain ⟨r, rfl⟩ := Int.eq_ofNat_of_zero_le hr0
  have e2 : bwt_firsts.f last = some (fstTo last 256) := by
    unfold bwt_firsts.f
    rw [if_pos (all_bytes hb), if_pos (by omega)]
  have e : nx last 0 = fstTo last 256 := by
    unfold nx fstTo
    refine List.map_congr_left fun x _ => ?_
    unfold cnt
    simp
  have h := steps_l0 last C r (by omega) hb hn c last.length 0 (by omega)
  rw [if_neg (Nat.not_lt_zero _), List.take_zero, e, Int.natCast_zero] at h
  have hw : wrap64 ((last.length : Int) + 1) = ((last.length + 1 : Nat) : Int) := w64_add _ (by omega)
  unfold bwt_steps.f
  rw [e2, Option.bind_some, hw, if_pos (by omega), Int.toNat_natCast, if_pos (by omega), h, Int.toNat_natCast]
open Go.Proofs.Ytalhipjgafjmoaa.Bwt in
def bwt_Back.f (l0_0 : List Int) (a0_1 : Int) (l0_2 : List Int) : Option (List Int × Int) := if l0_0.all (fun x => 0 ≤ x && x < 256) then some (backS l0_0 a0_1 l0_2) else none
def row8 (l : List Int) : Array Value := (l.map (Value.int .u8)).toArray
theorem row8_size (l : List Int) : (row8 l).size = l.length := by simp [row8]
theorem row8_get (l : List Int) (k : Nat) (h : k < l.length) : (row8 l)[k]? = some (.int .u8 (l.getD k 0)) := by
  unfold row8
  rw [List.getElem?_toArray, List.getElem?_map, List.getElem?_eq_getElem h, List.getD_eq_getElem?_getD, List.getElem?_eq_getElem h]
  rfl
theorem row8_set (l : List Int) (k : Nat) (v : Int) : (row8 l).setIfInBounds k (.int .u8 v) = row8 (l.set k v) := by
  unfold row8
  rw [List.setIfInBounds_toArray, List.map_set]
theorem made8 (m : Nat) : madeCells (Value.int .u8 0).cells (m * 1) = row8 (List.replicate m 0) := by
  apply Array.ext
  · simp [madeCells, row8, Value.cells]
  · intro i h1 h2
    simp [madeCells, row8, Value.cells, Nat.mod_one]
theorem info8 : (Try.prog.info? 5).map (fun i => (i.zero, i.size, i.bytes)) = some (some (.int .u8 0), 1, 1) := by kernel_rfl
theorem make8 (n : Nat) (hn : n ≤ 8192) (w : World) : (Instr.makeSlice 22 (.int .i64 (n : Int)) (.int .i64 (n : Int))).run Try.prog w = .ok (.slice (some ⟨w.heap.size, 0, none⟩) n n) (w.alloc (.cells (row8 (List.replicate n 0)) 5)) := by
  obtain ⟨i0, hi, hz0, hz1, hz2⟩ := info_parts info8
  have h := run_make (P := Try.prog) w 22 5 i0 (.int .u8 0) Try.underlying22 hi hz0 .i64 .i64 (n : Int) (n : Int) (by omega) (by omega) (by rw [hz2]; omega) (by omega)
  rw [Int.toNat_natCast, hz1, made8] at h
  exact h
/-- What lies in memory at the label. -/
structure BMem (w : World) (B : Nat) (av cv : Value) (row : Int) (next text : List Int) (g T : Nat) (W : World) : Prop where
  bd : Below w.heap.size w W
  hB : w.heap.size ≤ B
  box : W.heap[B]? = some (.cells #[av, .int .i64 row, cv] 25 (0, 0))
  nx : ∀ p, p < next.length → W.cell? ⟨g, p, none⟩ = some (.int .i64 (next.getD p 0))
  tx : W.heap[T]? = some (.cells (row8 text) 5 (0, 0))
  gT : g ≠ T
  BT : B ≠ T
  hT : w.heap.size ≤ T
theorem BMem.later {w : World} {B : Nat} {av cv : Value} {row : Int} {next text : List Int} {g T : Nat} {W W' : World} (h : BMem w B av cv row next text g T W) (hb : Below W.heap.size W W') : BMem w B av cv row next text g T W' :=
  ⟨h.bd.trans (hb.mono h.bd.size), h.hB, (hb.block _ (Array.getElem?_eq_some_iff.1 h.box).1).trans h.box, fun p hp => (hb.cell (World.block_lt_of_cell? W _ (h.nx p hp))).trans (h.nx p hp), (hb.block _ (Array.getElem?_eq_some_iff.1 h.tx).1).trans h.tx, h.gT, h.BT, h.hT⟩
theorem BMem.put {w : World} {B : Nat} {av cv : Value} {row : Int} {next text : List Int} {g T : Nat} {W : World} (h : BMem w B av cv row next text g T W) (i : Nat) (v : Int) : BMem w B av cv row next (text.set i v) g T (W.setCell ⟨T, i, none⟩ (.int .u8 v)) := by
  refine ⟨h.bd.setCell h.hT _, h.hB, Go.Proofs.Ytalhipjgafjmoaa.Suf.set_far _ _ _ _ h.BT h.box, fun p hp => ?_, ?_, h.gT, h.BT, h.hT⟩
  · have h1 := h.nx p hp
    have h2 := Below.heap_setCell W ⟨T, i, none⟩ (.int .u8 v) g h.gT
    simp only [World.cell?, h2] at h1 ⊢
    exact h1
  · rw [Go.Proofs.Ytalhipjgafjmoaa.Suf.row_set h.tx, row8_set]
def BFrame (av cv : Value) (row : Int) (n B g T c i place : Nat) (a : Act) : Prop := ∃ u : Nat → Value, a = { tmps := #[.agg #[av, .int .i64 row, cv], .pointer (some ⟨B, 0, none⟩), .slice none 0 0, .int .i64 0, .int .i64 (n : Int), .slice (some ⟨g, 0, none⟩) (n + 1) c, .slice (some ⟨T, 0, none⟩) n n, .int .i64 (i : Int), .int .i64 (place : Int), u 9, u 10, u 11, u 12, u 13, u 14, u 15, u 16, u 17, u 18, u 19, u 20, u 21, u 22, u 23, u 24, u 25, u 26, u 27, u 28, u 29, u 30, u 31, u 32, u 33, u 34, u 35, u 36, u 37, u 38, u 39, u 40, u 41, u 42, u 43, u 44, u 45, u 46, u 47, u 48, u 49, u 50, u 51, u 52, u 53, u 54, u 55, u 56, u 57, u 58, u 59, u 60, u 61, u 62, u 63, u 64, u 65, u 66, u 67, u 68, u 69, u 70, u 71, u 72, u 73, u 74, u 75, u 76, u 77, u 78, u 79, u 80, u 81, u 82], defers := [] }
def BJ (w : World) (av cv : Value) (last : List Int) (row : Nat) (res : List Int × Nat) (a : Act) (W : World) : Prop :=
  ∃ (g T c i place : Nat) (text : List Int), BFrame av cv (row : Int) last.length w.heap.size g T c i place a ∧ BMem w w.heap.size av cv (row : Int) (Go.Proofs.Ytalhipjgafjmoaa.Bwt.stepsS last row) text g T W ∧ text.length = last.length ∧ i ≤ last.length ∧ place ≤ last.length ∧ (∀ x ∈ text, 0 ≤ x ∧ x < 256) ∧ Go.Proofs.Ytalhipjgafjmoaa.Bwt.goBack last row i place text = res
set_option maxHeartbeats 4000000 in
set_option maxRecDepth 100000 in
theorem back_bad (A0 : Option Addr) (c0 : Nat) (last : List Int) (row : Int) (A2 : Option Addr) (c2 : Nat) (C : List Int) (w : World) (hm : last.length ≤ 9223372036854775807) (hc : 8192 < last.length ∨ row < 0 ∨ (last.length : Int) < row) :
    Calls Try.prog 9 #[.agg #[.slice A0 last.length c0, .int .i64 row, .slice A2 C.length c2]] w fun e w' => e = .returned (.tuple #[.slice none 0 0, .int .i64 161]) ∧ Below w.heap.size w w' := by
  have HB := fun o => Lib.hid ((Below.refl w.heap.size w).alloc (Nat.le_refl _) o)
  by_cases h1 : 8192 < last.length
  · have e1 : decide ((8192 : Int) < (last.length : Int)) = true := decide_eq_true (by omega)
    have e2 : decide (8192 < last.length) = true := decide_eq_true h1
    clear hc h1
    go_enter Try.func9, Try.ntmps9
    go_wp2
    go_step3
    go_wp2
    rw [Exit.noGoto_ret]
    go_ret2
    exact ⟨rfl, (HB _).out⟩
  · have e1 : decide ((8192 : Int) < (last.length : Int)) = false := decide_eq_false (by omega)
    have e2 : decide (8192 < last.length) = false := decide_eq_false h1
    by_cases h2 : row < 0
    · have e3 : decide (row < 0) = true := decide_eq_true h2
      clear hc h1 h2
      go_enter Try.func9, Try.ntmps9
      go_wp2
      go_step3
      go_wp2
      rw [Exit.noGoto_ret]
      go_ret2
      exact ⟨rfl, (HB _).out⟩
    · have e3 : decide (row < 0) = false := decide_eq_false h2
      have e4 : decide ((last.length : Int) < row) = true := decide_eq_true (by omega)
      clear hc h1 h2
      go_enter Try.func9, Try.ntmps9
      go_wp2
      go_step3
      go_wp2
      rw [Exit.noGoto_ret]
      go_ret2
      exact ⟨rfl, (HB _).out⟩
section
open Go.Proofs.Ytalhipjgafjmoaa.Bwt
theorem w64_sub (i : Nat) (h : 0 < i) (h2 : i < 9000000000000000000) : wrap64 ((i : Int) - 1) = ((i - 1 : Nat) : Int) := by
  unfold wrap64
  omega
theorem at_f (last : List Int) (row place : Nat) (C : List Int) (hr : row ≤ last.length) (hp : place ≤ last.length) (hne : place ≠ row) (hn : last.length ≤ 8192) : bwt_at.f last (row : Int) C (place : Int) = some (last.getD (if row < place then place - 1 else place) 0) := by
  unfold bwt_at.f
  by_cases h : row < place
  · rw [if_pos (by omega), w64_sub place (by omega) (by omega), if_pos (by omega), if_pos (by omega), if_pos h, rd_nat]
  · rw [if_neg (by omega), if_pos (by omega), if_pos (by omega), if_neg h, rd_nat]
theorem eq8_l0 (x0 x1 : List Int) (hl : x0.length = x1.length) (hb : x0.length < 9000000000000000000) (c : Nat) : ∀ (m i : Nat), i + m = x0.length → slices_Equal_byte_byte.l0 (c + m + 1) x0 x1 (x0.length : Int) (i : Int) = some (decide (x0.drop i = x1.drop i))
  | 0, i, h => by
    unfold slices_Equal_byte_byte.l0
    rw [if_neg (by omega), List.drop_of_length_le (by omega), List.drop_of_length_le (by omega)]
    rfl
  | m + 1, i, h => by
    unfold slices_Equal_byte_byte.l0
    rw [if_pos (by omega), if_pos (by omega), if_pos (by omega), if_pos (by omega), rd_nat, rd_nat, w64_add i (by omega), drop_get x0 i (by omega), drop_get x1 i (by omega)]
    by_cases he : x0.getD i 0 = x1.getD i 0
    · rw [if_pos he]
      have ih := eq8_l0 x0 x1 hl hb c m (i + 1) (by omega)
      rw [show c + (m + 1) = c + m + 1 from rfl, ih, he]
      simp
    · rw [if_neg he]
      exact congrArg some (decide_eq_false fun e => he (List.cons.inj e).1).symm
theorem eq8_f (x0 x1 : List Int) (hb : x0.length < 9000000000000000000) : slices_Equal_byte_byte.f (x0.length + 1) x0 x1 = some (decide (x0 = x1)) := by
  unfold slices_Equal_byte_byte.f
  by_cases h : x0.length = x1.length
  · rw [if_pos (by omega)]
    have := eq8_l0 x0 x1 h hb 0 x0.length 0 (by omega)
    rw [Nat.zero_add, Int.natCast_zero, List.drop_zero, List.drop_zero] at this
    exact this
  · rw [if_neg (by omega)]
    have : x0 ≠ x1 := fun e => h (by rw [e])
    rw [decide_eq_false this]
theorem eqi_l0 (x0 x1 : List Int) (hl : x0.length = x1.length) (hb : x0.length < 9000000000000000000) (c : Nat) : ∀ (m i : Nat), i + m = x0.length → slices_Equal_int_int.l0 (c + m + 1) x0 x1 (x0.length : Int) (i : Int) = some (decide (x0.drop i = x1.drop i))
  | 0, i, h => by
    unfold slices_Equal_int_int.l0
    rw [if_neg (by omega), List.drop_of_length_le (by omega), List.drop_of_length_le (by omega)]
    rfl
  | m + 1, i, h => by
    unfold slices_Equal_int_int.l0
    rw [if_pos (by omega), if_pos (by omega), if_pos (by omega), if_pos (by omega), rd_nat, rd_nat, w64_add i (by omega), drop_get x0 i (by omega), drop_get x1 i (by omega)]
    by_cases he : x0.getD i 0 = x1.getD i 0
    · rw [if_pos he]
      have ih := eqi_l0 x0 x1 hl hb c m (i + 1) (by omega)
      rw [show c + (m + 1) = c + m + 1 from rfl, ih, he]
      simp
    · rw [if_neg he]
      exact congrArg some (decide_eq_false fun e => he (List.cons.inj e).1).symm
theorem eqi_f (x0 x1 : List Int) (hb : x0.length < 9000000000000000000) : slices_Equal_int_int.f (x0.length + 1) x0 x1 = some (decide (x0 = x1)) := by
  unfold slices_Equal_int_int.f
  by_cases h : x0.length = x1.length
  · rw [if_pos (by omega)]
    have := eqi_l0 x0 x1 h hb 0 x0.length 0 (by omega)
    rw [Nat.zero_add, Int.natCast_zero, List.drop_zero, List.drop_zero] at this
    exact this
  · rw [if_neg (by omega)]
    have : x0 ≠ x1 := fun e => h (by rw [e])
    rw [decide_eq_false this]
theorem C_row8 {W : World} {T : Nat} {text : List Int} (h : W.heap[T]? = some (.cells (row8 text) 5 (0, 0))) (hn : text.length ≤ 8192) : Kd.C (Kd.int .u8) W (some ⟨T, 0, none⟩) text.length text := by
  refine Kd.C_of_reads (h1 := fun _ => rfl) (d := (0 : Int)) ⟨rfl, by omega, fun _ => ⟨_, rfl, fun j hj => ?_⟩⟩
  have e : (⟨T, 0, none⟩ : Addr).add j = ⟨T, j, none⟩ := by unfold Addr.add; split <;> simp_all
  rw [e]
  simp only [World.cell?, h]
  exact row8_get text j hj
theorem R_row8 {w W : World} {T : Nat} {text : List Int} (h : W.heap[T]? = some (.cells (row8 text) 5 (0, 0))) (hT : w.heap.size ≤ T) (hn : text.length ≤ 8192) : Kd.R (Kd.int .u8) 5 W w.heap.size (fun _ => True) (.slice (some ⟨T, 0, none⟩) text.length text.length) text := by
  refine Kd.R_of_own (h1 := fun _ => rfl) (ok := fun _ => True) ?_ (fun _ _ => trivial)
  refine ⟨by rw [encs_length]; omega, .inr ⟨T, text.length, _, rfl, hT, h, Nat.le_refl _, by unfold maxLen; omega, by rw [row8_size]; omega, ?_⟩⟩
  rw [List.take_of_length_le]
  · rfl
  · simp [row8]
theorem R_cells {w : World} {base : Nat} {ok : Nat → Prop} {v : Value} {xs : List Int} (h : Kd.R (Kd.int .i64) 3 w base ok v xs) (hne : 0 < xs.length) : ∃ g cap, v = .slice (some ⟨g, 0, none⟩) xs.length cap ∧ base ≤ g ∧ g < w.heap.size ∧ ∀ p, p < xs.length → w.cell? ⟨g, p, none⟩ = some (.int .i64 (xs.getD p 0)) := by
  obtain ⟨g, cap, rfl, hb, hl, _⟩ := Kd.R_form h hne
  refine ⟨g, cap, rfl, hb, hl, fun p hp => ?_⟩
  obtain ⟨ad, e, hc⟩ := Kd.at_int (Kd.R_reads' h).2.2 (p : Int) (by omega) (by omega)
  cases e
  have e : (⟨g, 0, none⟩ : Addr).add p = ⟨g, p, none⟩ := by unfold Addr.add; split <;> simp_all
  rw [Int.toNat_natCast, e, rd_nat] at hc
  exact hc

theorem backS_res (last : List Int) (row : Nat) (C : List Int) (hn : last.length ≤ 8192) (hr : row ≤ last.length) : backS last (row : Int) C =
    (if (goBack last row last.length 0 (List.replicate last.length 0)).2 = 0 ∧ mkRow (goBack last row last.length 0 (List.replicate last.length 0)).1 = (row : Int) ∧ mkLast (goBack last row last.length 0 (List.replicate last.length 0)).1 = last ∧ fstTo (goBack last row last.length 0 (List.replicate last.length 0)).1 256 = C then ((goBack last row last.length 0 (List.replicate last.length 0)).1, 0) else ([], 161)) := by
  unfold backS
  rw [if_neg (by omega), Int.toNat_natCast]
set_option maxHeartbeats 4000000 in
set_option maxRecDepth 100000 in
theorem back_good (A0 : Option Addr) (c0 : Nat) (last : List Int) (row : Nat) (A2 : Option Addr) (c2 : Nat) (C : List Int) (w : World) (hr0 : Kd.C (Kd.int .u8) w A0 last.length last) (hc0 : last.length ≤ c0) (hr2 : Kd.C (Kd.int .i64) w A2 C.length C) (hc2 : C.length ≤ c2)
    (hb : ∀ x ∈ last, 0 ≤ x ∧ x < 256) (hn : last.length ≤ 8192) (hr : row ≤ last.length) :
    Calls Try.prog 9 #[.agg #[.slice A0 last.length c0, .int .i64 (row : Int), .slice A2 C.length c2]] w fun e w' => ∃ v0_, e = .returned (.tuple #[v0_, .int .i64 (backS last (row : Int) C).2]) ∧ Kd.R (Kd.int .u8) 5 w' w.heap.size (fun _ => True) v0_ (backS last (row : Int) C).1 ∧ Below w.heap.size w w' := by
  have e1 : decide ((8192 : Int) < (last.length : Int)) = false := decide_eq_false (by omega)
  have e2 : decide (8192 < last.length) = false := decide_eq_false (by omega)
  have e3 : decide ((row : Int) < 0) = false := decide_eq_false (by omega)
  have e4 : decide ((last.length : Int) < (row : Int)) = false := decide_eq_false (by omega)
  have e5 : decide (last.length < row) = false := decide_eq_false (by omega)
  have hbk := backS_res last row C hn hr
  obtain ⟨res, hres⟩ : ∃ res, goBack last row last.length 0 (List.replicate last.length 0) = res := ⟨_, rfl⟩
  rw [hres] at hbk
  have HRES := Lib.hid hres
  clear hres
  obtain ⟨rr, hrr⟩ : ∃ rr, rr = backS last (row : Int) C := ⟨_, rfl⟩
  rw [← hrr] at hbk ⊢
  have HBK := Lib.hid hbk
  clear hbk hrr
  go_enter Try.func9, Try.ntmps9
  go_wp2
  refine Go.Proofs.Ytalhipjgafjmoaa.Suf.wp_scope_again 0 (BJ w (.slice A0 last.length c0) (.slice A2 C.length c2) last row res) (fun a _ => (intOf (a.tmps.getD 7 undef)).toNat) rfl ?pass ?first
  case first =>
    intro hp
    have hst := fun k W h0 h2 h => bwt_steps.calls k A0 c0 last (row : Int) A2 c2 C (stepsS last row) W h0 hc0 h2 hc2 h
    have hmk := make8 last.length hn
    have hfs := steps_f last C (row : Int) (by omega) (by omega) hb hn 0
    rw [Int.toNat_natCast] at hfs
    have HF := Lib.hid hfs
    clear hfs
    go_wp2_with fail
    have HB := Lib.hid ((Below.refl w.heap.size w).alloc (Nat.le_refl _) (.cells #[.slice A0 last.length c0, .int .i64 (row : Int), .slice A2 C.length c2] 25))
    obtain ⟨W0, hW0⟩ : ∃ W0, W0 = w.alloc (.cells #[.slice A0 last.length c0, .int .i64 (row : Int), .slice A2 C.length c2] 25) := ⟨_, rfl⟩
    have hbox : W0.heap[w.heap.size]? = some (.cells #[.slice A0 last.length c0, .int .i64 (row : Int), .slice A2 C.length c2] 25 (0, 0)) := by rw [hW0]; exact heap_alloc_new w _
    have hsz : w.heap.size + 1 = W0.heap.size := by rw [hW0]; simp
    rw [← hW0] at HB ⊢
    have HBOX := Lib.hid hbox; have HSZ := Lib.hid hsz
    clear hW0 hbox hsz
    refine (hst (0 + last.length + 1) W0 (Kd.C_below hr0 HB.out) (Kd.C_below hr2 HB.out) HF.out).mono ?_
    rintro e w1 ⟨v0, rfl, hR1, hB1⟩
    obtain ⟨g, cap, hv, hg, hgl, hnx⟩ := R_cells hR1 (by rw [stepsS_length]; omega)
    rw [stepsS_length] at hv
    rw [hv]
    have HM := Lib.hid (show BMem w w.heap.size (.slice A0 last.length c0) (.slice A2 C.length c2) (row : Int) (stepsS last row) (List.replicate last.length 0) g w1.heap.size (w1.alloc (.cells (row8 (List.replicate last.length 0)) 5)) from
      ⟨(HB.out.trans (hB1.mono HB.out.size)).alloc (by have := HB.out.size; have := hB1.size; omega) _, Nat.le_refl _, (((hB1.alloc hB1.size _).block _ (by have := HSZ.out; omega)).trans HBOX.out),
        fun p hp => (((Below.refl _ _).alloc (Nat.le_refl _) _).cell (World.block_lt_of_cell? _ _ (hnx p hp))).trans (hnx p hp), heap_alloc_new w1 _, by omega, by have := HSZ.out; have := hB1.size; omega, by have := HB.out.size; have := hB1.size; omega⟩)
    clear hR1 hv hnx hB1
    go_wp2
    go_step3
    rename_i HK1
    refine HK1 _ _ ?_
    refine hp.out _ _ ?_
    refine ⟨g, w1.heap.size, cap, last.length, 0, List.replicate last.length 0, ⟨fun i => (#[undef, undef, undef, undef, undef, undef, undef, undef, undef, _, _, _, _, _, _, _, _, _, _, _, _, _, _, _, _, _, _, _, _, _, _, _, _, _, _, _, _, _, _, _, _, _, _, _, _, _, _, _, _, _, _, _, _, _, _, _, _, _, _, _, _, _, _, _, _, _, _, _, _, _, _, _, _, _, _, _, _, _, _, _, _, _, _] : Array Value).getD i undef, rfl⟩, HM.out, by simp, Nat.le_refl _, Nat.zero_le _, fun x hx => by have := (List.mem_replicate.1 hx).2; omega, HRES.out⟩
  case pass =>
    clear e1 e2 e3 e4 e5 HRES
    rintro a W ⟨g, T, c, i, place, text, ⟨u, rfl⟩, hM, ht, hi, hp, htb, hres⟩
    have HTB := Lib.hid htb
    clear htb
    have HRES := Lib.hid hres
    have HM := Lib.hid hM
    clear hres
    have x1 : W.cell? ⟨w.heap.size, 0, none⟩ = some (.slice A0 last.length c0) := by simp only [World.cell?, hM.box]; rfl
    have x2 : W.cell? ⟨w.heap.size, 1, none⟩ = some (.int .i64 (row : Int)) := by simp only [World.cell?, hM.box]; rfl
    have x3 : W.cell? ⟨w.heap.size, 2, none⟩ = some (.slice A2 C.length c2) := by simp only [World.cell?, hM.box]; rfl
    clear hM
    have hmake := fun c => bwt_Make.calls (c + (text.length + 1) + 1) (some ⟨T, 0, none⟩) last.length text (mkLast text) (mkRow text) (fstTo text 256) 0 W (C_row8 HM.out.tx (by omega)) (by omega) (make_f text HTB.out (by omega) c)
    have hmake := hmake 0
    rw [ht] at hmake
    by_cases h0 : 0 < i
    · by_cases hpr : place = row
      · subst hpr
        obtain ⟨j, rfl⟩ : ∃ j, i = j + 1 := ⟨i - 1, by omega⟩
        have hres := HRES.out
        unfold goBack at hres
        rw [if_pos rfl] at hres
        subst hres
        have d1 : decide ((0 : Int) < ((j + 1 : Nat) : Int)) = true := decide_eq_true (by omega)
        have d2 : decide ((0 : Int) < (j : Int) + 1) = true := decide_eq_true (by omega)
        have HMK := Lib.hid hmake
        clear hmake
        go_wp2_with fail
        refine HMK.out.mono ?_
        rintro e W1 ⟨v0, v2, rfl, hR0, hR2, hB1⟩
        obtain ⟨Aa, ca, hv0, hca, hC0⟩ := Kd.R_reads hR0
        obtain ⟨Ab, cb, hv2, hcb, hC2⟩ := Kd.R_reads hR2
        rw [hv0, hv2]
        clear hR0 hR2 hv0 hv2
        go_wp2
        simp only [Exit.jump]
        go_ret2
        have hbk := HBK.out
        rw [if_neg (by rintro ⟨h, _⟩; cases h)] at hbk
        subst hbk
        exact ⟨_, rfl, Kd.R_nil _ _ _ _ _, (HM.out.bd.trans (hB1.mono HM.out.bd.size)).alloc (by have := HM.out.bd.size; have := hB1.size; omega) _⟩
      · obtain ⟨j, rfl⟩ : ∃ j, i = j + 1 := ⟨i - 1, by omega⟩
        have d1 : decide ((0 : Int) < ((j + 1 : Nat) : Int)) = true := decide_eq_true (by omega)
        have d2 : decide ((0 : Int) < (j : Int) + 1) = true := decide_eq_true (by omega)
        have d3 : ((place : Int) != (row : Int)) = true := bne_iff_ne.2 (by omega)
        have d4 : (place != row) = true := bne_iff_ne.2 hpr
        have HAT := Lib.hid (at_f last row place C hr hp hpr hn)
        have hcall := fun r h => bwt_at.calls A0 c0 last (row : Int) A2 c2 C (place : Int) r W (Kd.C_below hr0 HM.out.bd) hc0 (Kd.C_below hr2 HM.out.bd) hc2 h
        clear hpr
        go_wp2_with fail
        refine (hcall _ HAT.out).mono ?_
        rintro e W1 ⟨rfl, hB1⟩
        obtain ⟨b, hbv⟩ : ∃ b, last.getD (if row < place then place - 1 else place) 0 = b := ⟨_, rfl⟩
        have HBV := Lib.hid hbv
        have HTB2 : Hid (∀ x ∈ text.set j b, 0 ≤ x ∧ x < 256) := Lib.hid fun x hx => by
          rcases List.mem_or_eq_of_mem_set hx with hx | rfl
          · exact HTB.out x hx
          · rw [← hbv, List.getD_eq_getElem?_getD]
            cases e : last[if row < place then place - 1 else place]? with
            | none => exact ⟨by decide, by decide⟩
            | some v => exact hb v (List.mem_of_getElem? e)
        rw [hbv]
        clear hbv hcall
        have HM1 := Lib.hid (HM.out.later hB1)
        have x4 : W1.cell? ⟨T, j, none⟩ = some (.int .u8 (text.getD j 0)) := by simp only [World.cell?, HM1.out.tx]; exact row8_get text j (by omega)
        have x5 : W1.frozen? ⟨T, j, none⟩ = false := by simp only [World.frozen?, HM1.out.tx]; simp
        have HM2 := Lib.hid (HM1.out.put j b)
        have x6 : (W1.setCell ⟨T, j, none⟩ (.int .u8 b)).cell? ⟨g, place, none⟩ = some (.int .i64 ((stepsS last row).getD place 0)) := HM2.out.nx place (by rw [stepsS_length]; omega)
        rw [stepsS_get last row place hp] at x6
        have hsl := stepAt_le last row place hp hr (fun x hx => (hb x hx).1)
        obtain ⟨q, hq⟩ : ∃ q : Nat, stepAt last row place = (q : Int) := ⟨(stepAt last row place).toNat, by omega⟩
        rw [hq] at x6 hsl
        have HQ := Lib.hid hq
        clear hq x1 x2 x3
        have hj1 : j < last.length := by omega
        have hj2 : (j : Int) < (last.length : Int) := by omega
        have hj3 : place < last.length + 1 := by omega
        have hj4 : (place : Int) < (last.length : Int) + 1 := by omega
        go_wp2
        go_step3
        have hres := HRES.out
        unfold goBack at hres
        rw [if_neg (by have := bne_iff_ne.1 d4; exact this), HBV.out, HQ.out, Int.toNat_natCast] at hres
        show 0 = 0 ∧ (BJ w (.slice A0 last.length c0) (.slice A2 C.length c2) last row res _ _ ∧ _ < _)
        refine ⟨rfl, ⟨g, T, c, j, q, text.set j b, ⟨fun i => (#[undef, undef, undef, undef, undef, undef, undef, undef, undef, _, _, _, _, _, _, _, _, _, _, _, _, _, _, _, _, _, _, _, _, _, _, _, _, _, _, _, _, _, _, _, _, _, _, _, _, _, _, _, _, _, _, _, _, _, _, _, _, _, _, _, _, _, _, _, _, _, _, _, _, _, _, _, _, _, _, _, _, _, _, _, _, _, _] : Array Value).getD i undef, rfl⟩, HM2.out, by simp [ht], by omega, by omega, HTB2.out, hres⟩, ?_⟩
        simp [intOf]
    · obtain rfl : i = 0 := by omega
      have hres := HRES.out
      unfold goBack at hres
      subst hres
      have HMK := Lib.hid hmake
      clear hmake h0
      go_wp2_with fail
      refine HMK.out.mono ?_
      rintro e W1 ⟨v0, v2, rfl, hR0, hR2, hB1⟩
      obtain ⟨Aa, ca, hv0, hca, hC0⟩ := Kd.R_reads hR0
      obtain ⟨Ab, cb, hv2, hcb, hC2⟩ := Kd.R_reads hR2
      rw [hv0, hv2]
      clear hR0 hR2 hv0 hv2
      have HMW := Lib.hid (HM.out.later hB1)
      have hE1 := fun W2 h1 h2 => slices_Equal_byte_byte.calls ((mkLast text).length + 1) Aa ca (mkLast text) A0 c0 last _ W2 h1 hca h2 hc0 (eq8_f _ _ (by rw [mkLast_length]; omega))
      have hE2 := fun W2 h1 h2 => slices_Equal_int_int.calls ((fstTo text 256).length + 1) Ab cb (fstTo text 256) A2 c2 C _ W2 h1 hcb h2 hc2 (eqi_f _ _ (by rw [fstTo_length]; omega))
      have HE1 := Lib.hid hE1; have HE2 := Lib.hid hE2
      clear hE1 hE2
      obtain ⟨O, hO⟩ : ∃ O, O = Obj.cells #[Value.slice Aa (mkLast text).length ca, Value.int .i64 (mkRow text), Value.slice Ab (fstTo text 256).length cb] 25 := ⟨_, rfl⟩
      have HBA := Lib.hid ((Below.refl W1.heap.size W1).alloc (Nat.le_refl _) O)
      rw [hO] at HBA
      clear hO
      have x1 := HMW.out.later HBA.out
      have x2 : (W1.alloc (Obj.cells #[Value.slice Aa (mkLast text).length ca, Value.int .i64 (mkRow text), Value.slice Ab (fstTo text 256).length cb] 25)).cell? ⟨w.heap.size, 0, none⟩ = some (.slice A0 last.length c0) := by simp only [World.cell?, x1.box]; rfl
      have x3 : (W1.alloc (Obj.cells #[Value.slice Aa (mkLast text).length ca, Value.int .i64 (mkRow text), Value.slice Ab (fstTo text 256).length cb] 25)).cell? ⟨w.heap.size, 1, none⟩ = some (.int .i64 (row : Int)) := by simp only [World.cell?, x1.box]; rfl
      have x4 : (W1.alloc (Obj.cells #[Value.slice Aa (mkLast text).length ca, Value.int .i64 (mkRow text), Value.slice Ab (fstTo text 256).length cb] 25)).cell? ⟨w.heap.size, 2, none⟩ = some (.slice A2 C.length c2) := by simp only [World.cell?, x1.box]; rfl
      have HX1 := Lib.hid x1
      clear x1
      by_cases q1 : mkRow text = (row : Int)
      · have s1 : (mkRow text != (row : Int)) = false := bne_eq_false_iff_eq.2 q1
        have HQ1 := Lib.hid q1
        clear q1
        go_wp2_with fail
        by_cases q2 : mkLast text = last
        · have hE1 := HE1.out _ (Kd.C_below hC0 HBA.out) (Kd.C_below hr0 HX1.out.bd)
          rw [decide_eq_true q2] at hE1
          have HQ2 := Lib.hid q2
          clear q2
          refine hE1.mono ?_
          rintro e W2 ⟨rfl, hD⟩
          clear hE1
          have HD := Lib.hid hD.below
          obtain ⟨n1, rfl⟩ := hD.out
          have HBD := Lib.hid (HX1.out.later HD.out).bd
          have HBE := Lib.hid (HBA.out.trans (HD.out.mono HBA.out.size))
          clear hD
          go_wp2_with fail
          by_cases q3 : fstTo text 256 = C
          · have hE2 := HE2.out _ (Kd.C_below hC2 HBE.out) (Kd.C_below hr2 HBD.out)
            rw [decide_eq_true q3] at hE2
            have HQ3 := Lib.hid q3
            clear q3
            refine hE2.mono ?_
            rintro e W2 ⟨rfl, hD⟩
            clear hE2
            have HD2 := Lib.hid hD.below
            obtain ⟨n2, rfl⟩ := hD.out
            have hbf := HBD.out.trans (HD2.out.mono HBD.out.size)
            have hxf := (HX1.out.later HD.out).later HD2.out
            rw [World.drewN_drewN] at hbf hxf
            have HBF := Lib.hid hbf; have HXF := Lib.hid hxf
            clear hbf hxf
            clear hD
            go_wp2
            simp only [Exit.jump]
            go_ret2
            have hbk := HBK.out
            rw [if_pos ⟨by first | rfl | trivial, HQ1.out, HQ2.out, HQ3.out⟩] at hbk
            subst hbk
            have hR := R_row8 (w := w) HXF.out.tx HXF.out.hT (by omega)
            rw [ht] at hR
            exact ⟨_, rfl, hR, HBF.out⟩
          · have hE2 := HE2.out _ (Kd.C_below hC2 HBE.out) (Kd.C_below hr2 HBD.out)
            rw [decide_eq_false q3] at hE2
            have HQ3 := Lib.hid q3
            clear q3
            refine hE2.mono ?_
            rintro e W2 ⟨rfl, hD⟩
            clear hE2
            have HD2 := Lib.hid hD.below
            obtain ⟨n2, rfl⟩ := hD.out
            have hbf := HBD.out.trans (HD2.out.mono HBD.out.size)
            rw [World.drewN_drewN] at hbf
            have HBF := Lib.hid hbf
            clear hbf hD
            go_wp2
            simp only [Exit.jump]
            go_ret2
            have hbk := HBK.out
            rw [if_neg (by rintro ⟨_, _, _, h⟩; exact HQ3.out h)] at hbk
            subst hbk
            exact ⟨_, rfl, Kd.R_nil _ _ _ _ _, HBF.out⟩
        · have hE1 := HE1.out _ (Kd.C_below hC0 HBA.out) (Kd.C_below hr0 HX1.out.bd)
          rw [decide_eq_false q2] at hE1
          have HQ2 := Lib.hid q2
          clear q2
          refine hE1.mono ?_
          rintro e W2 ⟨rfl, hD⟩
          clear hE1
          have HD := Lib.hid hD.below
          obtain ⟨n1, rfl⟩ := hD.out
          have HBD := Lib.hid (HX1.out.later HD.out).bd
          clear hD
          go_wp2
          simp only [Exit.jump]
          go_ret2
          have hbk := HBK.out
          rw [if_neg (by rintro ⟨_, _, h, _⟩; exact HQ2.out h)] at hbk
          subst hbk
          exact ⟨_, rfl, Kd.R_nil _ _ _ _ _, HBD.out⟩
      · have s1 : (mkRow text != (row : Int)) = true := bne_iff_ne.2 q1
        have HQ1 := Lib.hid q1
        clear q1
        go_wp2
        simp only [Exit.jump]
        go_ret2
        have hbk := HBK.out
        rw [if_neg (by rintro ⟨_, h, _⟩; exact HQ1.out h)] at hbk
        subst hbk
        exact ⟨_, rfl, Kd.R_nil _ _ _ _ _, HX1.out.bd⟩
theorem bwt_Back.calls (A0_0 : Option Addr) (c0_0 : Nat) (l0_0 : List Int) (a0_1 : Int) (A0_2 : Option Addr) (c0_2 : Nat) (l0_2 : List Int) (r1 : List Int) (r2 : Int) (w : World) (hr0_0 : Kd.C (Kd.int .u8) w A0_0 l0_0.length l0_0) (hc0_0 : l0_0.length ≤ c0_0) (hr0_2 : Kd.C (Kd.int .i64) w A0_2 l0_2.length l0_2) (hc0_2 : l0_2.length ≤ c0_2) (h : bwt_Back.f l0_0 a0_1 l0_2 = some (r1, r2)) :
    Calls Try.prog 9 #[.agg #[.slice A0_0 l0_0.length c0_0, .int .i64 a0_1, .slice A0_2 l0_2.length c0_2]] w fun e w' => ∃ v0_ : Value, e = .returned (.tuple #[v0_, .int .i64 r2]) ∧ Kd.R (Kd.int .u8) 5 w' w.heap.size (fun _ => True) v0_ r1 ∧ Below w.heap.size w w' := by
  unfold bwt_Back.f at h
  split at h
  · rename_i hb
    simp only [Bool.and_eq_true, List.all_eq_true, decide_eq_true_eq] at hb
    have h := Option.some.inj h
    by_cases hc : 8192 < l0_0.length ∨ a0_1 < 0 ∨ (l0_0.length : Int) < a0_1
    · unfold backS at h
      rw [if_pos hc] at h
      obtain ⟨rfl, rfl⟩ := Prod.mk.inj h
      refine (back_bad A0_0 c0_0 l0_0 a0_1 A0_2 c0_2 l0_2 w hr0_0.2.1 hc).mono ?_
      rintro e w' ⟨he, hw⟩
      exact ⟨_, he, Kd.R_nil _ _ _ _ _, hw⟩
    · obtain ⟨r, rfl⟩ := Int.eq_ofNat_of_zero_le (show 0 ≤ a0_1 by omega)
      have hg := back_good A0_0 c0_0 l0_0 r A0_2 c0_2 l0_2 w hr0_0 hc0_0 hr0_2 hc0_2 hb (by omega) (by omega)
      rw [h] at hg
      exact hg
  · cases h
end

/-! ### bwt_Check: function 10 -/
def bwt_Check.f (l0_0 : List Int) (a0_1 : Int) (l0_2 : List Int) : Option (Bool) := (bwt_Back.f l0_0 a0_1 l0_2).bind fun bt149 => (some (bt149.2 == 0))
set_option maxHeartbeats 8000000 in
set_option maxRecDepth 100000 in
theorem bwt_Check.calls (A0_0 : Option Addr) (c0_0 : Nat) (l0_0 : List Int) (a0_1 : Int) (A0_2 : Option Addr) (c0_2 : Nat) (l0_2 : List Int) (r : Bool) (w : World) (hr0_0 : Kd.C (Kd.int .u8) w A0_0 l0_0.length l0_0) (hc0_0 : l0_0.length ≤ c0_0) (hr0_2 : Kd.C (Kd.int .i64) w A0_2 l0_2.length l0_2) (hc0_2 : l0_2.length ≤ c0_2) (h : bwt_Check.f l0_0 a0_1 l0_2 = some r) :
    Calls Try.prog 10 #[.agg #[.slice A0_0 l0_0.length c0_0, .int .i64 a0_1, .slice A0_2 l0_2.length c0_2]] w fun e w' => e = .returned (.bool r) ∧ Below w.heap.size w w' := by
  have hu25 := Try.underlying25
  have HR0_0 := Aside0.mk hr0_0
  have HC0_0 := Aside0.mk hc0_0
  clear hr0_0 hc0_0
  have HR0_2 := Aside0.mk hr0_2
  have HC0_2 := Aside0.mk hc0_2
  clear hr0_2 hc0_2
  have HB := Aside0.mk (Below.refl w.heap.size w)
  have H : ((bwt_Back.f l0_0 a0_1 l0_2).bind fun bt149 => (some (bt149.2 == 0))) = some r := h
  clear h
  replace H := Option.bind_eq_some_iff.mp H
  obtain ⟨⟨t149, t152⟩, A20, H⟩ := H
  replace H : (some (t152 == 0)) = some r := H
  have A2 := Aside0.mk A20
  clear A20
  obtain rfl := Option.some.inj H
  go_enter Try.func10, Try.ntmps10
  go_wp2_with (first | ((with_reducible refine gate_dst (N := 1) rfl ?_); refine box_event ?hg (N := 1) ?hd (cs := #[.slice A0_0 l0_0.length c0_0, .int .i64 a0_1, .slice A0_2 l0_2.length c0_2]) (t := 25) ?hr ?_; (case hd => rfl); (case hg => rfl); (case hr => first | (go_simp; done) | (go_simp; rfl)); intro gb148 hg w3 hbox hb; have n0_ := Aside0.mk (below_step (by repeat (first | (with_reducible first | exact HB.out | apply below_alloc | apply pw_below_drewN | apply below_drew1) | exact HB.out)) hb); have n1_ := Aside0.mk (hbox); have n2_ := Aside0.mk ((by rw [hg]; exact (below_size (by repeat (first | (with_reducible first | exact HB.out | apply below_alloc | apply pw_below_drewN | apply below_drew1) | exact HB.out))) : w.heap.size ≤ gb148)); have n3_ := Aside0.mk ((by rw [hg]; exact (below_size (by repeat (first | (with_reducible first | exact HB.out | apply below_alloc | apply pw_below_drewN | apply below_drew1) | exact HB.out))) : w.heap.size ≤ gb148)); clear HB; have HB := n0_; have BK148 := n1_; have GW148 := n2_; have GE148 := n3_; clear n0_ n1_ n2_ n3_; clear hb hbox hg; have hcz4_0 : w3.cell? ⟨gb148, 0, none⟩ = some (.slice A0_0 l0_0.length c0_0) := (blk_cell BK148.out 0).trans rfl; have hcz4_1 : w3.cell? ⟨gb148, 1, none⟩ = some (.int .i64 a0_1) := (blk_cell BK148.out 1).trans rfl; have hcz4_2 : w3.cell? ⟨gb148, 2, none⟩ = some (.slice A0_2 l0_2.length c0_2) := (blk_cell BK148.out 2).trans rfl; have hfz4_0 := blk_frozen BK148.out 0; have hfz4_1 := blk_frozen BK148.out 1; have hfz4_2 := blk_frozen BK148.out 2) | ((with_reducible refine gate_callee (f := 9) rfl ?_); refine goesL_ (some 7) rfl rfl Try.func9 (by kernel_rfl) rfl #[.agg #[.slice A0_0 l0_0.length c0_0, .int .i64 a0_1, .slice A0_2 l0_2.length c0_2]] rfl (by (try simp only [List.map_toArray, List.map_cons, List.map_nil]); first | done | rfl | (simp only [List.length_drop, List.length_take]; rfl)) ?_; (with_reducible refine (bwt_Back.calls _ _ l0_0 a0_1 _ _ l0_2 t149 t152 _ ?side1 ?side2 ?side3 ?side4 A2.out).mono ?_); (case side1 => repeat (first | exact (Kd.C_below HR0_0.out HB.out) | (with_reducible refine Kd.C_alloc ?_ _) | (with_reducible refine Kd.C_drewN ?_ _) | (with_reducible refine Kd.C_drew ?_))); (case side2 => exact HC0_0.out); (case side3 => repeat (first | exact (Kd.C_below HR0_2.out HB.out) | (with_reducible refine Kd.C_alloc ?_ _) | (with_reducible refine Kd.C_drewN ?_ _) | (with_reducible refine Kd.C_drew ?_))); (case side4 => exact HC0_2.out); rintro e w5 ⟨v150, rfl, ho0, hb⟩; refine ⟨_, rfl, ?_⟩; have n0_ := Aside0.mk (Kd.R_lower ho0 (below_size (by repeat (first | (with_reducible first | exact HB.out | apply below_alloc | apply pw_below_drewN | apply below_drew1 | refine below_set ?_ GE148.out) | exact HB.out)))); have n1_ := Aside0.mk (blk_below (g := gb148) (o := .cells #[.slice A0_0 l0_0.length c0_0, .int .i64 a0_1, .slice A0_2 l0_2.length c0_2] 25 (0, 0)) (by (with_reducible repeat (first | refine blk_drewN ?_ _ | refine blk_drew ?_ | refine blk_alloc ?_ _)); exact BK148.out) hb); have n2_ := Aside0.mk (below_step (by repeat (first | (with_reducible first | exact HB.out | apply below_alloc | apply pw_below_drewN | apply below_drew1 | refine below_set ?_ GE148.out) | exact HB.out)) hb); clear BK148; clear HB; have HO151 := n0_; have BK148 := n1_; have HB := n2_; clear n0_ n1_ n2_; (try clear hb); (try clear hb2); (try clear hk); (try clear hi); (try clear ho0)))
  go_ret
  exact ⟨by first | rfl | (simp [errW_none, errW_some] <;> rfl) | (simp [*, errW_none, errW_some] <;> rfl), by repeat (first | (with_reducible first | exact HB.out | apply below_alloc | apply pw_below_drewN | apply below_drew1 | refine below_set ?_ GE148.out) | exact HB.out)⟩

/-! ### bwt_Step: function 14 -/
def bwt_Step.f (k : Nat) (l0_0 : List Int) (a0_1 : Int) (l0_2 : List Int) (a1 : Int) : Option (Int × Int) := (bwt_Check.f l0_0 a0_1 l0_2).bind fun t154 => (if t154 = true then (if a1 < 0 then (some (0, 3)) else (if a1 > (l0_0.length : Int) then (some (0, 3)) else ((bwt_steps.f k l0_0 a0_1 l0_2).bind fun t155 => (if 0 ≤ a1 then (if a1 < (t155.length : Int) then (some (rd t155 a1, 0)) else (none)) else (none))))) else (some (0, 2)))
theorem bwt_Step.mono : ∀ a0 a1 a2 a3 k, LeO (bwt_Step.f k a0 a1 a2 a3) (bwt_Step.f (k + 1) a0 a1 a2 a3) := by
  intro a0 a1 a2 a3 k
  unfold bwt_Step.f
  repeat' first
      | (with_reducible exact bwt_steps.mono _ _ _ _)
      | (with_reducible exact LeO.refl _)
      | (with_reducible exact LeO.none _)
      | (with_reducible refine LeO.ite ?_ ?_)
      | (with_reducible refine LeO.bind ?_ (fun _ => ?_))
      | exact bwt_steps.mono _ _ _ _
      | exact LeO.none _
      | refine LeO.ite ?_ ?_
      | refine LeO.bind ?_ (fun _ => ?_)
set_option maxHeartbeats 8000000 in
set_option maxRecDepth 100000 in
theorem bwt_Step.calls (k : Nat) (A0_0 : Option Addr) (c0_0 : Nat) (l0_0 : List Int) (a0_1 : Int) (A0_2 : Option Addr) (c0_2 : Nat) (l0_2 : List Int) (a1 : Int) (r1 : Int) (r2 : Int) (w : World) (hr0_0 : Kd.C (Kd.int .u8) w A0_0 l0_0.length l0_0) (hc0_0 : l0_0.length ≤ c0_0) (hr0_2 : Kd.C (Kd.int .i64) w A0_2 l0_2.length l0_2) (hc0_2 : l0_2.length ≤ c0_2) (h : bwt_Step.f k l0_0 a0_1 l0_2 a1 = some (r1, r2)) :
    Calls Try.prog 14 #[.agg #[.slice A0_0 l0_0.length c0_0, .int .i64 a0_1, .slice A0_2 l0_2.length c0_2], .int .i64 a1] w fun e w' => e = .returned (.tuple #[.int .i64 r1, .int .i64 r2]) ∧ Below w.heap.size w w' := by
  have hu25 := Try.underlying25
  have HR0_0 := Aside0.mk hr0_0
  have HC0_0 := Aside0.mk hc0_0
  clear hr0_0 hc0_0
  have HR0_2 := Aside0.mk hr0_2
  have HC0_2 := Aside0.mk hc0_2
  clear hr0_2 hc0_2
  have HB := Aside0.mk (Below.refl w.heap.size w)
  have H : ((bwt_Check.f l0_0 a0_1 l0_2).bind fun t154 => (if t154 = true then (if a1 < 0 then (some (0, 3)) else (if a1 > (l0_0.length : Int) then (some (0, 3)) else ((bwt_steps.f k l0_0 a0_1 l0_2).bind fun t155 => (if 0 ≤ a1 then (if a1 < (t155.length : Int) then (some (rd t155 a1, 0)) else (none)) else (none))))) else (some (0, 2)))) = some (r1, r2) := h
  clear h
  replace H := Option.bind_eq_some_iff.mp H
  obtain ⟨t154, A30, H⟩ := H
  replace H : (if t154 = true then (if a1 < 0 then (some (0, 3)) else (if a1 > (l0_0.length : Int) then (some (0, 3)) else ((bwt_steps.f k l0_0 a0_1 l0_2).bind fun t155 => (if 0 ≤ a1 then (if a1 < (t155.length : Int) then (some (rd t155 a1, 0)) else (none)) else (none))))) else (some (0, 2))) = some (r1, r2) := H
  have A3 := Aside0.mk A30
  clear A30
  by_cases c4 : t154 = true
  · subst c4
    have H1 : (if a1 < 0 then (some (0, 3)) else (if a1 > (l0_0.length : Int) then (some (0, 3)) else ((bwt_steps.f k l0_0 a0_1 l0_2).bind fun t155 => (if 0 ≤ a1 then (if a1 < (t155.length : Int) then (some (rd t155 a1, 0)) else (none)) else (none))))) = some (r1, r2) := by rw [if_pos rfl] at H; exact H
    clear H
    have H := H1
    clear H1
    by_cases c5 : a1 < 0
    · rw [if_pos c5] at H
      have c5b0 : decide (a1 < 0) = true := decide_eq_true c5
      clear c5
      simp only [Option.some.injEq, Prod.mk.injEq] at H
      obtain ⟨rfl, rfl⟩ := H
      go_enter Try.func14, Try.ntmps14
      go_wp2_with (first | ((with_reducible refine gate_dst (N := 2) rfl ?_); (try (refine gate_guard (by rfl) ?_; dsimp only)); refine box_event ?hg (N := 2) ?hd (cs := #[.slice A0_0 l0_0.length c0_0, .int .i64 a0_1, .slice A0_2 l0_2.length c0_2]) (t := 25) ?hr ?_; (case hd => rfl); (case hg => rfl); (case hr => first | (go_simp; done) | (go_simp; rfl)); intro gb153 hg w6 hbox hb; have n0_ := Aside0.mk (below_step (by repeat (first | (with_reducible first | exact HB.out | apply below_alloc | apply pw_below_drewN | apply below_drew1) | exact HB.out)) hb); have n1_ := Aside0.mk (hbox); have n2_ := Aside0.mk ((by rw [hg]; exact (below_size (by repeat (first | (with_reducible first | exact HB.out | apply below_alloc | apply pw_below_drewN | apply below_drew1) | exact HB.out))) : w.heap.size ≤ gb153)); have n3_ := Aside0.mk ((by rw [hg]; exact (below_size (by repeat (first | (with_reducible first | exact HB.out | apply below_alloc | apply pw_below_drewN | apply below_drew1) | exact HB.out))) : w.heap.size ≤ gb153)); clear HB; have HB := n0_; have BK153 := n1_; have GW153 := n2_; have GE153 := n3_; clear n0_ n1_ n2_ n3_; clear hb hbox hg; have hcz7_0 : w6.cell? ⟨gb153, 0, none⟩ = some (.slice A0_0 l0_0.length c0_0) := (blk_cell BK153.out 0).trans rfl; have hcz7_1 : w6.cell? ⟨gb153, 1, none⟩ = some (.int .i64 a0_1) := (blk_cell BK153.out 1).trans rfl; have hcz7_2 : w6.cell? ⟨gb153, 2, none⟩ = some (.slice A0_2 l0_2.length c0_2) := (blk_cell BK153.out 2).trans rfl; have hfz7_0 := blk_frozen BK153.out 0; have hfz7_1 := blk_frozen BK153.out 1; have hfz7_2 := blk_frozen BK153.out 2) | ((with_reducible refine gate_callee (f := 10) rfl ?_); refine goesL_ (some 8) rfl rfl Try.func10 (by kernel_rfl) rfl #[.agg #[.slice A0_0 l0_0.length c0_0, .int .i64 a0_1, .slice A0_2 l0_2.length c0_2]] rfl (by (try simp only [List.map_toArray, List.map_cons, List.map_nil]); first | done | rfl | (simp only [List.length_drop, List.length_take]; rfl)) ?_; (with_reducible refine (bwt_Check.calls _ _ l0_0 a0_1 _ _ l0_2 true _ ?side1 ?side2 ?side3 ?side4 A3.out).mono ?_); (case side1 => repeat (first | exact (Kd.C_below HR0_0.out HB.out) | (with_reducible refine Kd.C_alloc ?_ _) | (with_reducible refine Kd.C_drewN ?_ _) | (with_reducible refine Kd.C_drew ?_))); (case side2 => exact HC0_0.out); (case side3 => repeat (first | exact (Kd.C_below HR0_2.out HB.out) | (with_reducible refine Kd.C_alloc ?_ _) | (with_reducible refine Kd.C_drewN ?_ _) | (with_reducible refine Kd.C_drew ?_))); (case side4 => exact HC0_2.out); rintro e w8 ⟨rfl, hb⟩; refine ⟨_, rfl, ?_⟩; have n0_ := Aside0.mk (blk_below (g := gb153) (o := .cells #[.slice A0_0 l0_0.length c0_0, .int .i64 a0_1, .slice A0_2 l0_2.length c0_2] 25 (0, 0)) (by (with_reducible repeat (first | refine blk_drewN ?_ _ | refine blk_drew ?_ | refine blk_alloc ?_ _)); exact BK153.out) hb); have n1_ := Aside0.mk (below_step (by repeat (first | (with_reducible first | exact HB.out | apply below_alloc | apply pw_below_drewN | apply below_drew1 | refine below_set ?_ GE153.out) | exact HB.out)) hb); clear BK153; clear HB; have BK153 := n0_; have HB := n1_; clear n0_ n1_; (try clear hb); (try clear hb2); (try clear hk); (try clear hi)))
      go_ret2
      exact ⟨by first | rfl | (simp [errW_none, errW_some] <;> rfl) | (simp [*, errW_none, errW_some] <;> rfl), by repeat (first | (with_reducible first | exact HB.out | apply below_alloc | apply pw_below_drewN | apply below_drew1 | refine below_set ?_ GE153.out) | exact HB.out)⟩
    · rw [if_neg c5] at H
      have c5b0 : decide (a1 < 0) = false := decide_eq_false c5
      clear c5
      by_cases c9 : a1 > (l0_0.length : Int)
      · rw [if_pos c9] at H
        have c9b0 : decide ((l0_0.length : Int) < a1) = true := decide_eq_true c9
        clear c9
        simp only [Option.some.injEq, Prod.mk.injEq] at H
        obtain ⟨rfl, rfl⟩ := H
        go_enter Try.func14, Try.ntmps14
        go_wp2_with (first | ((with_reducible refine gate_dst (N := 2) rfl ?_); (try (refine gate_guard (by rfl) ?_; dsimp only)); refine box_event ?hg (N := 2) ?hd (cs := #[.slice A0_0 l0_0.length c0_0, .int .i64 a0_1, .slice A0_2 l0_2.length c0_2]) (t := 25) ?hr ?_; (case hd => rfl); (case hg => rfl); (case hr => first | (go_simp; done) | (go_simp; rfl)); intro gb153 hg w10 hbox hb; have n0_ := Aside0.mk (below_step (by repeat (first | (with_reducible first | exact HB.out | apply below_alloc | apply pw_below_drewN | apply below_drew1) | exact HB.out)) hb); have n1_ := Aside0.mk (hbox); have n2_ := Aside0.mk ((by rw [hg]; exact (below_size (by repeat (first | (with_reducible first | exact HB.out | apply below_alloc | apply pw_below_drewN | apply below_drew1) | exact HB.out))) : w.heap.size ≤ gb153)); have n3_ := Aside0.mk ((by rw [hg]; exact (below_size (by repeat (first | (with_reducible first | exact HB.out | apply below_alloc | apply pw_below_drewN | apply below_drew1) | exact HB.out))) : w.heap.size ≤ gb153)); clear HB; have HB := n0_; have BK153 := n1_; have GW153 := n2_; have GE153 := n3_; clear n0_ n1_ n2_ n3_; clear hb hbox hg; have hcz11_0 : w10.cell? ⟨gb153, 0, none⟩ = some (.slice A0_0 l0_0.length c0_0) := (blk_cell BK153.out 0).trans rfl; have hcz11_1 : w10.cell? ⟨gb153, 1, none⟩ = some (.int .i64 a0_1) := (blk_cell BK153.out 1).trans rfl; have hcz11_2 : w10.cell? ⟨gb153, 2, none⟩ = some (.slice A0_2 l0_2.length c0_2) := (blk_cell BK153.out 2).trans rfl; have hfz11_0 := blk_frozen BK153.out 0; have hfz11_1 := blk_frozen BK153.out 1; have hfz11_2 := blk_frozen BK153.out 2) | ((with_reducible refine gate_callee (f := 10) rfl ?_); refine goesL_ (some 8) rfl rfl Try.func10 (by kernel_rfl) rfl #[.agg #[.slice A0_0 l0_0.length c0_0, .int .i64 a0_1, .slice A0_2 l0_2.length c0_2]] rfl (by (try simp only [List.map_toArray, List.map_cons, List.map_nil]); first | done | rfl | (simp only [List.length_drop, List.length_take]; rfl)) ?_; (with_reducible refine (bwt_Check.calls _ _ l0_0 a0_1 _ _ l0_2 true _ ?side1 ?side2 ?side3 ?side4 A3.out).mono ?_); (case side1 => repeat (first | exact (Kd.C_below HR0_0.out HB.out) | (with_reducible refine Kd.C_alloc ?_ _) | (with_reducible refine Kd.C_drewN ?_ _) | (with_reducible refine Kd.C_drew ?_))); (case side2 => exact HC0_0.out); (case side3 => repeat (first | exact (Kd.C_below HR0_2.out HB.out) | (with_reducible refine Kd.C_alloc ?_ _) | (with_reducible refine Kd.C_drewN ?_ _) | (with_reducible refine Kd.C_drew ?_))); (case side4 => exact HC0_2.out); rintro e w12 ⟨rfl, hb⟩; refine ⟨_, rfl, ?_⟩; have n0_ := Aside0.mk (blk_below (g := gb153) (o := .cells #[.slice A0_0 l0_0.length c0_0, .int .i64 a0_1, .slice A0_2 l0_2.length c0_2] 25 (0, 0)) (by (with_reducible repeat (first | refine blk_drewN ?_ _ | refine blk_drew ?_ | refine blk_alloc ?_ _)); exact BK153.out) hb); have n1_ := Aside0.mk (below_step (by repeat (first | (with_reducible first | exact HB.out | apply below_alloc | apply pw_below_drewN | apply below_drew1 | refine below_set ?_ GE153.out) | exact HB.out)) hb); clear BK153; clear HB; have BK153 := n0_; have HB := n1_; clear n0_ n1_; (try clear hb); (try clear hb2); (try clear hk); (try clear hi); have hcz13_0 : w12.cell? ⟨gb153, 0, none⟩ = some (.slice A0_0 l0_0.length c0_0) := (blk_cell BK153.out 0).trans rfl; have hcz13_1 : w12.cell? ⟨gb153, 1, none⟩ = some (.int .i64 a0_1) := (blk_cell BK153.out 1).trans rfl; have hcz13_2 : w12.cell? ⟨gb153, 2, none⟩ = some (.slice A0_2 l0_2.length c0_2) := (blk_cell BK153.out 2).trans rfl; have hfz13_0 := blk_frozen BK153.out 0; have hfz13_1 := blk_frozen BK153.out 1; have hfz13_2 := blk_frozen BK153.out 2))
        go_ret2
        exact ⟨by first | rfl | (simp [errW_none, errW_some] <;> rfl) | (simp [*, errW_none, errW_some] <;> rfl), by repeat (first | (with_reducible first | exact HB.out | apply below_alloc | apply pw_below_drewN | apply below_drew1 | refine below_set ?_ GE153.out) | exact HB.out)⟩
      · rw [if_neg c9] at H
        have c9b0 : decide ((l0_0.length : Int) < a1) = false := decide_eq_false c9
        clear c9
        replace H := Option.bind_eq_some_iff.mp H
        obtain ⟨t155, A140, H⟩ := H
        replace H : (if 0 ≤ a1 then (if a1 < (t155.length : Int) then (some (rd t155 a1, 0)) else (none)) else (none)) = some (r1, r2) := H
        have A14 := Aside0.mk A140
        clear A140
        by_cases c15 : 0 ≤ a1
        · rw [if_pos c15] at H
          have c15b0 : decide (0 ≤ a1) = true := decide_eq_true c15
          clear c15
          by_cases c16 : a1 < (t155.length : Int)
          · rw [if_pos c16] at H
            have c16b0 : decide (a1 < (t155.length : Int)) = true := decide_eq_true c16
            clear c16
            simp only [Option.some.injEq, Prod.mk.injEq] at H
            obtain ⟨rfl, rfl⟩ := H
            go_enter Try.func14, Try.ntmps14
            go_wp2_with (first | ((with_reducible refine gate_dst (N := 2) rfl ?_); (try (refine gate_guard (by rfl) ?_; dsimp only)); refine box_event ?hg (N := 2) ?hd (cs := #[.slice A0_0 l0_0.length c0_0, .int .i64 a0_1, .slice A0_2 l0_2.length c0_2]) (t := 25) ?hr ?_; (case hd => rfl); (case hg => rfl); (case hr => first | (go_simp; done) | (go_simp; rfl)); intro gb153 hg w17 hbox hb; have n0_ := Aside0.mk (below_step (by repeat (first | (with_reducible first | exact HB.out | apply below_alloc | apply pw_below_drewN | apply below_drew1) | exact HB.out)) hb); have n1_ := Aside0.mk (hbox); have n2_ := Aside0.mk ((by rw [hg]; exact (below_size (by repeat (first | (with_reducible first | exact HB.out | apply below_alloc | apply pw_below_drewN | apply below_drew1) | exact HB.out))) : w.heap.size ≤ gb153)); have n3_ := Aside0.mk ((by rw [hg]; exact (below_size (by repeat (first | (with_reducible first | exact HB.out | apply below_alloc | apply pw_below_drewN | apply below_drew1) | exact HB.out))) : w.heap.size ≤ gb153)); clear HB; have HB := n0_; have BK153 := n1_; have GW153 := n2_; have GE153 := n3_; clear n0_ n1_ n2_ n3_; clear hb hbox hg; have hcz18_0 : w17.cell? ⟨gb153, 0, none⟩ = some (.slice A0_0 l0_0.length c0_0) := (blk_cell BK153.out 0).trans rfl; have hcz18_1 : w17.cell? ⟨gb153, 1, none⟩ = some (.int .i64 a0_1) := (blk_cell BK153.out 1).trans rfl; have hcz18_2 : w17.cell? ⟨gb153, 2, none⟩ = some (.slice A0_2 l0_2.length c0_2) := (blk_cell BK153.out 2).trans rfl; have hfz18_0 := blk_frozen BK153.out 0; have hfz18_1 := blk_frozen BK153.out 1; have hfz18_2 := blk_frozen BK153.out 2) | ((with_reducible refine gate_callee (f := 10) rfl ?_); refine goesL_ (some 8) rfl rfl Try.func10 (by kernel_rfl) rfl #[.agg #[.slice A0_0 l0_0.length c0_0, .int .i64 a0_1, .slice A0_2 l0_2.length c0_2]] rfl (by (try simp only [List.map_toArray, List.map_cons, List.map_nil]); first | done | rfl | (simp only [List.length_drop, List.length_take]; rfl)) ?_; (with_reducible refine (bwt_Check.calls _ _ l0_0 a0_1 _ _ l0_2 true _ ?side1 ?side2 ?side3 ?side4 A3.out).mono ?_); (case side1 => repeat (first | exact (Kd.C_below HR0_0.out HB.out) | (with_reducible refine Kd.C_alloc ?_ _) | (with_reducible refine Kd.C_drewN ?_ _) | (with_reducible refine Kd.C_drew ?_))); (case side2 => exact HC0_0.out); (case side3 => repeat (first | exact (Kd.C_below HR0_2.out HB.out) | (with_reducible refine Kd.C_alloc ?_ _) | (with_reducible refine Kd.C_drewN ?_ _) | (with_reducible refine Kd.C_drew ?_))); (case side4 => exact HC0_2.out); rintro e w19 ⟨rfl, hb⟩; refine ⟨_, rfl, ?_⟩; have n0_ := Aside0.mk (blk_below (g := gb153) (o := .cells #[.slice A0_0 l0_0.length c0_0, .int .i64 a0_1, .slice A0_2 l0_2.length c0_2] 25 (0, 0)) (by (with_reducible repeat (first | refine blk_drewN ?_ _ | refine blk_drew ?_ | refine blk_alloc ?_ _)); exact BK153.out) hb); have n1_ := Aside0.mk (below_step (by repeat (first | (with_reducible first | exact HB.out | apply below_alloc | apply pw_below_drewN | apply below_drew1 | refine below_set ?_ GE153.out) | exact HB.out)) hb); clear BK153; clear HB; have BK153 := n0_; have HB := n1_; clear n0_ n1_; (try clear hb); (try clear hb2); (try clear hk); (try clear hi); have hcz20_0 : w19.cell? ⟨gb153, 0, none⟩ = some (.slice A0_0 l0_0.length c0_0) := (blk_cell BK153.out 0).trans rfl; have hcz20_1 : w19.cell? ⟨gb153, 1, none⟩ = some (.int .i64 a0_1) := (blk_cell BK153.out 1).trans rfl; have hcz20_2 : w19.cell? ⟨gb153, 2, none⟩ = some (.slice A0_2 l0_2.length c0_2) := (blk_cell BK153.out 2).trans rfl; have hfz20_0 := blk_frozen BK153.out 0; have hfz20_1 := blk_frozen BK153.out 1; have hfz20_2 := blk_frozen BK153.out 2) | ((with_reducible refine gate_callee (f := 16) rfl ?_); refine goesL_ (some 21) rfl rfl Try.func16 (by kernel_rfl) rfl #[.agg #[.slice A0_0 l0_0.length c0_0, .int .i64 a0_1, .slice A0_2 l0_2.length c0_2]] rfl (by (try simp only [List.map_toArray, List.map_cons, List.map_nil]); first | done | rfl | (simp only [List.length_drop, List.length_take]; rfl)) ?_; (with_reducible refine (bwt_steps.calls k _ _ l0_0 a0_1 _ _ l0_2 t155 _ ?side1 ?side2 ?side3 ?side4 A14.out).mono ?_); (case side1 => repeat (first | exact (Kd.C_below HR0_0.out HB.out) | (with_reducible refine Kd.C_alloc ?_ _) | (with_reducible refine Kd.C_drewN ?_ _) | (with_reducible refine Kd.C_drew ?_))); (case side2 => exact HC0_0.out); (case side3 => repeat (first | exact (Kd.C_below HR0_2.out HB.out) | (with_reducible refine Kd.C_alloc ?_ _) | (with_reducible refine Kd.C_drewN ?_ _) | (with_reducible refine Kd.C_drew ?_))); (case side4 => exact HC0_2.out); rintro e w21 ⟨v156, rfl, ho0, hb⟩; refine ⟨_, rfl, ?_⟩; have n0_ := Aside0.mk (Kd.R_lower ho0 (below_size (by repeat (first | (with_reducible first | exact HB.out | apply below_alloc | apply pw_below_drewN | apply below_drew1 | refine below_set ?_ GE153.out) | exact HB.out)))); have n1_ := Aside0.mk (blk_below (g := gb153) (o := .cells #[.slice A0_0 l0_0.length c0_0, .int .i64 a0_1, .slice A0_2 l0_2.length c0_2] 25 (0, 0)) (by (with_reducible repeat (first | refine blk_drewN ?_ _ | refine blk_drew ?_ | refine blk_alloc ?_ _)); exact BK153.out) hb); have n2_ := Aside0.mk (below_step (by repeat (first | (with_reducible first | exact HB.out | apply below_alloc | apply pw_below_drewN | apply below_drew1 | refine below_set ?_ GE153.out) | exact HB.out)) hb); clear BK153; clear HB; have HO157 := n0_; have BK153 := n1_; have HB := n2_; clear n0_ n1_ n2_; (try clear hb); (try clear hb2); (try clear hk); (try clear hi); (try clear ho0); obtain ⟨Ao22, co22, eo22⟩ := Kd.R_slice HO157.out; subst eo22; have p158 : 0 ≤ (a1 : Int) := of_decide_eq_true (by first | (with_reducible assumption) | assumption); have q158 : a1 < (t155.length : Int) := of_decide_eq_true (by first | (with_reducible assumption) | assumption); obtain ⟨ad158, e158, hx158_0⟩ := Kd.at_int (Kd.R_reads' HO157.out).2.2 a1 p158 q158; cases e158; replace p158 := eq_true p158; replace q158 := eq_true q158))
            go_ret2
            exact ⟨by first | rfl | (simp [errW_none, errW_some] <;> rfl) | (simp [*, errW_none, errW_some] <;> rfl), by repeat (first | (with_reducible first | exact HB.out | apply below_alloc | apply pw_below_drewN | apply below_drew1 | refine below_set ?_ GE153.out) | exact HB.out)⟩
          · rw [if_neg c16] at H
            exact absurd H (by simp)
        · rw [if_neg c15] at H
          exact absurd H (by simp)
  · replace c4 := Bool.eq_false_iff.mpr c4
    subst c4
    have H1 : (some (0, 2)) = some (r1, r2) := by rw [if_neg (show ¬ (false = true) by decide)] at H; exact H
    clear H
    have H := H1
    clear H1
    simp only [Option.some.injEq, Prod.mk.injEq] at H
    obtain ⟨rfl, rfl⟩ := H
    go_enter Try.func14, Try.ntmps14
    go_wp2_with (first | ((with_reducible refine gate_dst (N := 2) rfl ?_); (try (refine gate_guard (by rfl) ?_; dsimp only)); refine box_event ?hg (N := 2) ?hd (cs := #[.slice A0_0 l0_0.length c0_0, .int .i64 a0_1, .slice A0_2 l0_2.length c0_2]) (t := 25) ?hr ?_; (case hd => rfl); (case hg => rfl); (case hr => first | (go_simp; done) | (go_simp; rfl)); intro gb153 hg w23 hbox hb; have n0_ := Aside0.mk (below_step (by repeat (first | (with_reducible first | exact HB.out | apply below_alloc | apply pw_below_drewN | apply below_drew1) | exact HB.out)) hb); have n1_ := Aside0.mk (hbox); have n2_ := Aside0.mk ((by rw [hg]; exact (below_size (by repeat (first | (with_reducible first | exact HB.out | apply below_alloc | apply pw_below_drewN | apply below_drew1) | exact HB.out))) : w.heap.size ≤ gb153)); have n3_ := Aside0.mk ((by rw [hg]; exact (below_size (by repeat (first | (with_reducible first | exact HB.out | apply below_alloc | apply pw_below_drewN | apply below_drew1) | exact HB.out))) : w.heap.size ≤ gb153)); clear HB; have HB := n0_; have BK153 := n1_; have GW153 := n2_; have GE153 := n3_; clear n0_ n1_ n2_ n3_; clear hb hbox hg; have hcz24_0 : w23.cell? ⟨gb153, 0, none⟩ = some (.slice A0_0 l0_0.length c0_0) := (blk_cell BK153.out 0).trans rfl; have hcz24_1 : w23.cell? ⟨gb153, 1, none⟩ = some (.int .i64 a0_1) := (blk_cell BK153.out 1).trans rfl; have hcz24_2 : w23.cell? ⟨gb153, 2, none⟩ = some (.slice A0_2 l0_2.length c0_2) := (blk_cell BK153.out 2).trans rfl; have hfz24_0 := blk_frozen BK153.out 0; have hfz24_1 := blk_frozen BK153.out 1; have hfz24_2 := blk_frozen BK153.out 2) | ((with_reducible refine gate_callee (f := 10) rfl ?_); refine goesL_ (some 8) rfl rfl Try.func10 (by kernel_rfl) rfl #[.agg #[.slice A0_0 l0_0.length c0_0, .int .i64 a0_1, .slice A0_2 l0_2.length c0_2]] rfl (by (try simp only [List.map_toArray, List.map_cons, List.map_nil]); first | done | rfl | (simp only [List.length_drop, List.length_take]; rfl)) ?_; (with_reducible refine (bwt_Check.calls _ _ l0_0 a0_1 _ _ l0_2 false _ ?side1 ?side2 ?side3 ?side4 A3.out).mono ?_); (case side1 => repeat (first | exact (Kd.C_below HR0_0.out HB.out) | (with_reducible refine Kd.C_alloc ?_ _) | (with_reducible refine Kd.C_drewN ?_ _) | (with_reducible refine Kd.C_drew ?_))); (case side2 => exact HC0_0.out); (case side3 => repeat (first | exact (Kd.C_below HR0_2.out HB.out) | (with_reducible refine Kd.C_alloc ?_ _) | (with_reducible refine Kd.C_drewN ?_ _) | (with_reducible refine Kd.C_drew ?_))); (case side4 => exact HC0_2.out); rintro e w25 ⟨rfl, hb⟩; refine ⟨_, rfl, ?_⟩; have n0_ := Aside0.mk (blk_below (g := gb153) (o := .cells #[.slice A0_0 l0_0.length c0_0, .int .i64 a0_1, .slice A0_2 l0_2.length c0_2] 25 (0, 0)) (by (with_reducible repeat (first | refine blk_drewN ?_ _ | refine blk_drew ?_ | refine blk_alloc ?_ _)); exact BK153.out) hb); have n1_ := Aside0.mk (below_step (by repeat (first | (with_reducible first | exact HB.out | apply below_alloc | apply pw_below_drewN | apply below_drew1 | refine below_set ?_ GE153.out) | exact HB.out)) hb); clear BK153; clear HB; have BK153 := n0_; have HB := n1_; clear n0_ n1_; (try clear hb); (try clear hb2); (try clear hk); (try clear hi)))
    go_ret2
    exact ⟨by first | rfl | (simp [errW_none, errW_some] <;> rfl) | (simp [*, errW_none, errW_some] <;> rfl), by repeat (first | (with_reducible first | exact HB.out | apply below_alloc | apply pw_below_drewN | apply below_drew1 | refine below_set ?_ GE153.out) | exact HB.out)⟩

-- NOT PRINTED: function 24 (slices_Compact_byte_byte)

-- NOT PRINTED: function 25 (slices_Clone_byte_byte)

-- with calls, making: yes
/-! ### bwt_Runs: function 15, by hand -/
def runsN (l : List Int) : Int := ((Go.Lib.compactUpTo l.toArray l.length).length : Int)
def bwt_Runs.f (l0_0 : List Int) (a0_1 : Int) (l0_2 : List Int) : Option Int := (bwt_Check.f l0_0 a0_1 l0_2).bind fun t => if t = true then (if l0_0.length ≤ 8192 then some (runsN l0_0) else none) else some 0
set_option maxHeartbeats 4000000 in
set_option maxRecDepth 100000 in
theorem clone_any (A0 : Option Addr) (c0 : Nat) (l : List Int) (w : World) (hr : Kd.C (Kd.int .u8) w A0 l.length l) (hn : l.length ≤ 8192) :
    Calls Try.prog 25 #[.slice A0 l.length c0] w fun e w' => ∃ v, e = .returned v ∧ Kd.R (Kd.int .u8) 5 w' w.heap.size (fun _ => True) v l ∧ Below w.heap.size w w' := by
  have q := fun (w : World) (a : Option Addr) (n c n' c' : Nat) => Lib.run_eql_slice_nil (P := Try.prog) w 22 5 a n c n' c' Try.underlying22
  cases A0 with
  | none =>
    have h0 : l.length = 0 := by
      rcases Nat.eq_zero_or_pos l.length with h | h
      · exact h
      · obtain ⟨ad, e, _⟩ := Kd.at_int hr 0 (by omega) (by omega)
        cases e
    go_enter Try.func25, Try.ntmps25
    go_wp2
    go_ret
    obtain rfl := List.eq_nil_of_length_eq_zero h0
    exact ⟨_, rfl, Kd.R_nil _ _ _ _ _, Below.refl _ _⟩
  | some ad =>
    have HR := Lib.hid hr
    clear hr
    go_enter Try.func25, Try.ntmps25
    go_wp2_with ((with_reducible refine gate_builtin (b := .append) (xs := #[.tmp 5, .tmp 6]) rfl ?_); at_builtin; refine Kd.R_append_rows (Kd.int .u8) (w0 := w) w.heap.size rfl (.tmp 5) (.tmp 6) 22 5 (.int .u8 0) 1 rfl Try.underlying22 info8 rfl (by decide) (by omega) (.slice (some ⟨w.heap.size, 0, none⟩) 0 0) [] l (some ad) _ _ (fun _ => True) (fun _ => False) rfl rfl ?aO (Kd.C_alloc HR.out _) (fun _ _ h => h) (fun _ h => h.elim) (fun _ _ => trivial) ?aB ?aS ?aL ?_)
    case aO => exact Kd.R_of_own (h1 := fun _ => rfl) (ok := fun _ => True) ⟨by simp [encs], .inr ⟨w.heap.size, 0, _, rfl, Nat.le_refl _, heap_alloc_new w _, Nat.le_refl _, Nat.zero_le _, rfl, rfl⟩⟩ (fun _ _ => trivial)
    case aB => exact (Below.refl _ _).alloc (Nat.le_refl _) _
    case aS => simp
    case aL => simp; omega
    intro v1 w1 hr hb hg ho
    go_wp2
    go_ret
    exact ⟨_, rfl, hr, hb⟩
theorem putRow_below {enc : Int → Value} {w : World} {base blk off q : Nat} {d : Array Int} (hb : base ≤ blk) (hs : base ≤ w.heap.size) : Below base w (Go.Sort.putRow enc (Go.Sort.ahead w q) blk off d) := by
  refine ⟨rfl, rfl, rfl, ?_, fun k hk => ?_⟩
  · unfold Go.Sort.putRow Go.Sort.mapBlock
    simp [Go.Sort.ahead]
  · unfold Go.Sort.putRow Go.Sort.mapBlock
    show (w.heap.modify blk _)[k]? = _
    rw [Array.getElem?_modify, if_neg (by omega)]
set_option maxHeartbeats 4000000 in
set_option maxRecDepth 100000 in
theorem compact_nil (c : Nat) (w : World) : Calls Try.prog 24 #[.slice none 0 c] w fun e w' => e = .returned (.slice none 0 c) ∧ w' = w := by
  go_enter Try.func24, Try.ntmps24
  go_wp2
  go_ret
  exact ⟨rfl, rfl⟩
theorem compact_any (base : Nat) (v : Value) (l : List Int) (w : World) (hR : Kd.R (Kd.int .u8) 5 w base (fun _ => True) v l) (hn : l.length ≤ 8192) (hs : base ≤ w.heap.size) :
    Calls Try.prog 24 #[v] w fun e w' => ∃ A n c, e = .returned (.slice A n c) ∧ (n : Int) = runsN l ∧ Below base w w' := by
  rcases Nat.eq_zero_or_pos l.length with h0 | h0
  · obtain ⟨A, c, rfl, hc, hC⟩ := Kd.R_reads hR
    obtain rfl := List.eq_nil_of_length_eq_zero h0
    have ho := Kd.own_of_R (h1 := fun _ => rfl) hR
    rcases ho.2 with ⟨he, _⟩ | ⟨g, cap, cur, he, hg, hh, hle, hcm, hcs, ht⟩
    · rw [he]
      refine (compact_nil 0 w).mono ?_
      rintro e w' ⟨rfl, rfl⟩
      exact ⟨_, _, _, rfl, rfl, Below.refl _ _⟩
    · rw [he]
      have h := AnyE.slices_Compact Try.compactL (Value.int .u8) (fun _ => rfl) (EqlAt.intD _ _ .u8) (NeqAt.intD _ _ .u8) (0 : Int) Try.zeroValue5 g 0 cap #[] w (fun j hj => absurd hj (Nat.not_lt_zero _)) (by simp) (Nat.zero_le _)
      refine h.mono ?_
      rintro e w' ⟨rfl, q, rfl⟩
      exact ⟨_, _, _, rfl, rfl, putRow_below hg hs⟩
  · obtain ⟨g, cap, rfl, hb, hl, cells, hcl⟩ := Kd.R_form hR h0
    have hC := (Kd.R_reads' hR).2.2
    have hle := (Kd.R_reads' hR).2.1
    have h := AnyE.slices_Compact Try.compactL (Value.int .u8) (fun _ => rfl) (EqlAt.intD _ _ .u8) (NeqAt.intD _ _ .u8) (0 : Int) Try.zeroValue5 g 0 cap l.toArray w (fun j hj => by
      have hj' : j < l.length := by simpa using hj
      obtain ⟨ad, e, hc⟩ := Kd.at_int hC (j : Int) (by omega) (by omega)
      cases e
      have e : (⟨g, 0, none⟩ : Addr).add j = ⟨g, j, none⟩ := by unfold Addr.add; split <;> simp_all
      rw [Int.toNat_natCast, e, rd_nat] at hc
      rw [Nat.zero_add]
      refine ⟨?_, by simp [World.frozen?, hcl]⟩
      rw [hc]
      congr 2
      rw [getElem!_pos l.toArray j hj, List.getElem_toArray, List.getD_eq_getElem?_getD, List.getElem?_eq_getElem hj']
      rfl) (by simp; omega) (by simpa using hle)
    have hsz : l.toArray.size = l.length := by simp
    rw [hsz] at h
    refine h.mono ?_
    rintro e w' ⟨rfl, q, rfl⟩
    exact ⟨_, _, _, rfl, rfl, putRow_below hb hs⟩
set_option maxHeartbeats 4000000 in
set_option maxRecDepth 100000 in
theorem bwt_Runs.calls (A0_0 : Option Addr) (c0_0 : Nat) (l0_0 : List Int) (a0_1 : Int) (A0_2 : Option Addr) (c0_2 : Nat) (l0_2 : List Int) (r : Int) (w : World) (hr0_0 : Kd.C (Kd.int .u8) w A0_0 l0_0.length l0_0) (hc0_0 : l0_0.length ≤ c0_0) (hr0_2 : Kd.C (Kd.int .i64) w A0_2 l0_2.length l0_2) (hc0_2 : l0_2.length ≤ c0_2) (h : bwt_Runs.f l0_0 a0_1 l0_2 = some r) :
    Calls Try.prog 15 #[.agg #[.slice A0_0 l0_0.length c0_0, .int .i64 a0_1, .slice A0_2 l0_2.length c0_2]] w fun e w' => e = .returned (.int .i64 r) ∧ Below w.heap.size w w' := by
  unfold bwt_Runs.f at h
  obtain ⟨t, ht, h⟩ := Option.bind_eq_some_iff.1 h
  have hck := fun W h0 h2 => bwt_Check.calls A0_0 c0_0 l0_0 a0_1 A0_2 c0_2 l0_2 t W h0 hc0_0 h2 hc0_2 ht
  obtain ⟨O, hO⟩ : ∃ O, O = Obj.cells #[.slice A0_0 l0_0.length c0_0, .int .i64 a0_1, .slice A0_2 l0_2.length c0_2] 25 := ⟨_, rfl⟩
  have HB := Lib.hid ((Below.refl w.heap.size w).alloc (Nat.le_refl _) O)
  have HBX := Lib.hid (heap_alloc_new w O)
  rw [hO] at HB
  have HX : Hid ((w.alloc O).heap[w.heap.size]? = some (.cells #[.slice A0_0 l0_0.length c0_0, .int .i64 a0_1, .slice A0_2 l0_2.length c0_2] 25 (0, 0))) := Lib.hid (by rw [hO]; exact heap_alloc_new w _)
  rw [hO] at HX
  clear HBX hO
  have HCK := Lib.hid hck
  clear hck ht
  cases t with
  | false =>
    rw [if_neg (by decide)] at h
    obtain rfl := Option.some.inj h
    go_enter Try.func15, Try.ntmps15
    go_wp2_with fail
    refine (HCK.out _ (Kd.C_below hr0_0 HB.out) (Kd.C_below hr0_2 HB.out)).mono ?_
    rintro e w1 ⟨rfl, hb⟩
    go_wp2
    go_ret
    exact ⟨rfl, HB.out.trans (hb.mono HB.out.size)⟩
  | true =>
    rw [if_pos rfl] at h
    split at h
    · rename_i hn
      obtain rfl := Option.some.inj h
      go_enter Try.func15, Try.ntmps15
      go_wp2_with fail
      refine (HCK.out _ (Kd.C_below hr0_0 HB.out) (Kd.C_below hr0_2 HB.out)).mono ?_
      rintro e w1 ⟨rfl, hb⟩
      have HB1 := Lib.hid (HB.out.trans (hb.mono HB.out.size))
      have hx1 := (hb.block _ (Array.getElem?_eq_some_iff.1 HX.out).1).trans HX.out
      have x1 : w1.cell? ⟨w.heap.size, 0, none⟩ = some (.slice A0_0 l0_0.length c0_0) := by simp only [World.cell?, hx1]; rfl
      clear hx1 hb
      go_wp2_with fail
      refine (clone_any A0_0 c0_0 l0_0 w1 (Kd.C_below hr0_0 HB1.out) hn).mono ?_
      rintro e w2 ⟨v, rfl, hR, hb2⟩
      have HB2 := Lib.hid (HB1.out.trans (hb2.mono HB1.out.size))
      have HR := Lib.hid hR
      have HS := Lib.hid hb2.size
      have HS1 := Lib.hid HB1.out.size
      clear hR hb2
      go_wp2_with fail
      refine (compact_any _ v l0_0 w2 HR.out hn HS.out).mono ?_
      rintro e w3 ⟨A, n, c, rfl, hn2, hb3⟩
      have HN := Lib.hid hn2
      clear hn2
      go_wp2
      go_ret
      refine ⟨?_, HB2.out.trans (hb3.mono HS1.out)⟩
      rw [← HN.out]
      rfl
    · cases h

end Go.Proofs.Ytalhipjgafjmoaa.PBwtOnce
