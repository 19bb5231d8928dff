import Derived.Test.YtceompmfmceicaaYBase
import Derived.WalkKit
import Derived.Test.YtceompmfmceicaaYStable
import Derived.Test.YtceompmfmceicaaYRow
import Derived.Test.YtceompmfmceicaaMathAll
import Derived.Test.YtceompmfmceicaaWMore
/- cmp.isNaN, cmp.Compare, cmp.Or at int: walked. -/
namespace Go.Proofs.Ytceompmfmceicaa.Cmp
open Go.RowKit
set_option linter.unusedVariables false
set_option linter.unusedSimpArgs false

/-- What cmp.Compare answers. -/
def cmpI (x y : Int) : Int := if x < y then -1 else if y < x then 1 else 0
theorem isNaN_any (x : Int) (w : World) : Calls Try.prog 42 #[.int .i64 x] w fun e w' => e = .returned (.bool false) ∧ w' = w := by
  go_enter Try.func42, Try.ntmps42
  go_wp2
  go_ret
  exact ⟨rfl, rfl⟩
theorem compare_any (x y : Int) (w : World) : Calls Try.prog 25 #[.int .i64 x, .int .i64 y] w fun e w' => e = .returned (.int .i64 (cmpI x y)) ∧ w' = w := by
  go_enter Try.func25, Try.ntmps25
  go_wp2_with (go_at_call 42; refine (isNaN_any _ _).mono ?_; rintro e w' ⟨rfl, hw⟩; rw [hw])
  all_goals (go_ret; refine ⟨?_, rfl⟩; unfold cmpI; (repeat' split) <;> first | rfl | (exfalso; omega))
theorem cmpI_lt (x y : Int) : cmpI x y < 0 ↔ x < y := by
  unfold cmpI
  (repeat' split) <;> omega
end Go.Proofs.Ytceompmfmceicaa.Cmp
/- slices.SortStableFunc, huff.Codes: walked by hand; huff.fits is handed in as a hypothesis. -/
namespace Go.Proofs.Ytceompmfmceicaa.Codes
open Go.RowKit Go.Shelf Go.Lib Go.Sort Go.Proofs Go.Proofs.MathMerge Go.Proofs.Ytceompmfmceicaa.Base Go.Proofs.Ytceompmfmceicaa.Row Go.Proofs.Ytceompmfmceicaa.Cmp Go.Proofs.Ytceompmfmceicaa.Stable Go.Proofs.YtceompmfmceicaaW.PrintWords
set_option linter.unusedVariables false
set_option linter.unusedSimpArgs false

theorem mixed' : Try.prog.follows Departure.mixedOrders = true := by kernel_rfl
/-- The comparator: what the lengths' row holds. -/
structure Held (l : List Int) (A : Option Addr) (c pb : Nat) (W : World) : Prop where
  pc : W.cell? ⟨pb, 0, none⟩ = some (.slice A l.length c)
  rc : Kd.C (Kd.int .i64) W A l.length l
set_option maxHeartbeats 4000000 in
set_option maxRecDepth 20000 in
theorem cmp_any (l : List Int) (A : Option Addr) (c pb : Nat) (x y : Int) (W : World) (H : Held l A c pb W) (hl : l.length = 256) (hx : 0 ≤ x ∧ x < 256) (hy : 0 ≤ y ∧ y < 256) :
    Calls Try.prog 24 #[.int .i64 x, .int .i64 y, .pointer (some ⟨pb, 0, none⟩)] W fun e w' => e = .returned (.int .i64 (cmpI (rd l x) (rd l y))) ∧ ∃ q, w' = W.drewN q := by
  obtain ⟨hx0, hx1⟩ := hx
  obtain ⟨hy0, hy1⟩ := hy
  have hp := H.pc
  obtain ⟨ad, rfl, h1⟩ := Kd.at_int H.rc x hx0 (by omega)
  obtain ⟨ad2, e2, h2⟩ := Kd.at_int H.rc y hy0 (by omega)
  obtain rfl : ad = ad2 := by injection e2
  clear e2
  rw [hl] at hp
  generalize rd l x = u at *
  generalize rd l y = v at *
  clear hl
  have hx2 : x < ((256 : Nat) : Int) := hx1
  have hy2 : y < ((256 : Nat) : Int) := hy1
  have mixed := mixed'
  go_enter Try.func24, Try.ntmps24
  go_wp2
  go_quiet ((go_at_call 25; exact Calls.quiet_of_same (compare_any _ _ _)))
  go_wp2
  go_ret
  exact ⟨rfl, _, rfl⟩

/-! ### The sort -/
def enc (x : Int) : Value := .int .i64 (x % 256)
def L (l : List Int) (x : Int) : Int := rd l (x % 256)
def cf (l : List Int) (x y : Int) : Int := cmpI (L l x) (L l y)
theorem sorted_far (w : World) (blk m : Nat) (d : Array Int) (os : Array Obj) (k : Nat) (hk : k < w.heap.size) (hne : k ≠ blk) : (sortWorld enc w blk 0 m d os).heap[k]? = w.heap[k]? := by
  unfold sortWorld
  rw [Go.Sort.heap_grow_old _ _ (by simpa [Go.Sort.ahead] using hk)]
  unfold Go.Sort.putRow Go.Sort.mapBlock
  show (w.heap.modify blk _)[k]? = _
  rw [Array.getElem?_modify, if_neg (Ne.symm hne)]
theorem sorted_row (w : World) (blk m t : Nat) (d : Array Int) (os : Array Obj) (cs : Array Value) (hd : d.size = 256) (hcs : cs.size = 256) (h : w.heap[blk]? = some (.cells cs t (0, 0))) :
    (sortWorld enc w blk 0 m d os).heap[blk]? = some (.cells (row .i64 256 fun k => d[k]! % 256) t (0, 0)) := by
  have hk : blk < w.heap.size := (Array.getElem?_eq_some_iff.1 h).1
  unfold sortWorld
  rw [Go.Sort.heap_grow_old _ _ (by simpa [Go.Sort.ahead] using hk)]
  unfold Go.Sort.putRow Go.Sort.mapBlock
  show (w.heap.modify blk _)[blk]? = _
  rw [Array.getElem?_modify, if_pos rfl, h]
  show some (Obj.cells (Go.Sort.putCells enc 0 d cs) t (0, 0)) = _
  congr 2
  refine row_ext _ _ _ _ (by simp [Go.Sort.putCells, hcs]) fun k hk => ?_
  unfold Go.Sort.putCells
  rw [Array.getElem?_mapIdx, Array.getElem?_eq_getElem (by omega)]
  simp only [Option.map_some]
  rw [if_pos ⟨Nat.zero_le _, by omega⟩]
  rfl
theorem sorted_bd (w0 w : World) (blk m : Nat) (d : Array Int) (os : Array Obj) (h : Bd w0 w) (hb : w0.heap.size ≤ blk) (hk : blk < w.heap.size) : Bd w0 (sortWorld enc w blk 0 m d os) := by
  refine ⟨⟨h.below.os, h.below.tape, h.below.output, ?_, fun k hk' => ?_⟩, ?_⟩
  · unfold sortWorld
    have := h.below.size
    simp [Go.Sort.ahead]
    omega
  · rw [sorted_far w blk m d os k (by have := h.below.size; omega) (by omega)]
    exact h.below.block k hk'
  · exact Nat.le_trans h.drawn (Nat.le_add_right _ _)
/-- What lies in memory at the sort: the boxed row of lengths, the row of symbols. -/
structure Mem (w0 : World) (l : List Int) (A : Option Addr) (c pb blk : Nat) (f : Nat → Int) (W : World) : Prop where
  bd : Bd w0 W
  hb : w0.heap.size ≤ blk
  ne : pb ≠ blk
  box : W.heap[pb]? = some (.cells #[.slice A l.length c] 22 (0, 0))
  row : W.heap[blk]? = some (.cells (row .i64 256 f) 3 (0, 0))
theorem Mem.held {w0 : World} {l : List Int} {A : Option Addr} {c pb blk : Nat} {f : Nat → Int} {W : World} (h : Mem w0 l A c pb blk f W) (hr : Kd.C (Kd.int .i64) w0 A l.length l) : Held l A c pb W :=
  ⟨(Row.one_cell h.box).1, Kd.C_below hr h.bd.below⟩
theorem Mem.later {w0 : World} {l : List Int} {A : Option Addr} {c pb blk : Nat} {f : Nat → Int} {W W' : World} (h : Mem w0 l A c pb blk f W) (hb : Bd W W') : Mem w0 l A c pb blk f W' :=
  ⟨h.bd.trans hb, h.hb, h.ne, (hb.below.block _ (Row.blk_lt h.box)).trans h.box, (hb.below.block _ (Row.blk_lt h.row)).trans h.row⟩
theorem Mem.sorted {w0 : World} {l : List Int} {A : Option Addr} {c pb blk : Nat} {f : Nat → Int} {W : World} (h : Mem w0 l A c pb blk f W) (m : Nat) (d : Array Int) (os : Array Obj) (hd : d.size = 256) :
    Mem w0 l A c pb blk (fun k => d[k]! % 256) (sortWorld enc W blk 0 m d os) :=
  ⟨sorted_bd w0 W blk m d os h.bd h.hb (Row.blk_lt h.row), h.hb, h.ne, (sorted_far W blk m d os pb (Row.blk_lt h.box) h.ne).trans h.box, sorted_row W blk m _ d os _ hd (row_size _ _ _) h.row⟩
def idA : Array Int := ((List.range 256).map fun k : Nat => (k : Int)).toArray
theorem idA_size : idA.size = 256 := by simp [idA]
theorem idA_get (k : Nat) (hk : k < 256) : idA[k]! = (k : Int) := by
  rw [getElem!_pos idA k (by rw [idA_size]; exact hk)]
  simp [idA]
theorem emod_nat (k : Nat) (hk : k < 256) : (k : Int) % 256 = k := by omega
set_option maxHeartbeats 4000000 in
theorem sort_any (w0 : World) (l : List Int) (A : Option Addr) (c pb blk : Nat) (W : World) (h : Mem w0 l A c pb blk (fun k => k) W) (hr : Kd.C (Kd.int .i64) w0 A l.length l) (hl : l.length = 256) (hin : ∀ c, c < 256 → 0 ≤ MathCodes.len l c ∧ MathCodes.len l c ≤ 40) :
    Calls Try.prog 23 #[.slice (some ⟨blk, 0, none⟩) 256 256, .func (.func 24) #[] #[.pointer (some ⟨pb, 0, none⟩)]] W fun e w' => e = .returned (.tuple #[]) ∧ Mem w0 l A c pb blk (fun k => ((MathCodes.order l).getD k 0 : Int)) w' := by
  have eg : ∀ args w, (callFunc 24 args).run Try.prog w = .ok (.enter 24 args) w := enters_of Try.func24 (by kernel_rfl) rfl
  have hcmp : CmpLays1 Try.prog 24 #[.pointer (some ⟨pb, 0, none⟩)] enc (cf l) blk 0 idA.size W := by
    intro m os dk hdk x y
    have hM := h.sorted m dk os (by rw [hdk, idA_size])
    refine (cmp_any l A c pb (x % 256) (y % 256) _ (hM.held hr) hl (by omega) (by omega)).mono fun e w' ⟨he, q, hw⟩ => ⟨he, q, #[], ?_⟩
    rw [hw]
    unfold Go.Sort.grow
    rw [Array.append_empty]
  have hH : Go.Sort.Holds enc W blk 0 idA := by
    intro j hj
    rw [idA_size] at hj
    have hc := row_cells h.row j hj
    rw [Nat.zero_add, idA_get j hj]
    unfold enc
    rw [emod_nat j hj]
    exact hc
  have T : Stable.Told (L l) enc (cf l) 24 #[.pointer (some ⟨pb, 0, none⟩)] blk 0 idA W :=
    ⟨⟨fun _ => rfl, hH, Row.blk_lt h.row⟩, eg, hcmp, fun x y => by unfold cf ltB; rw [cmpI_lt, decide_eq_true_iff], by rw [idA_size]; decide⟩
  have hS := stable_any (L l) enc (cf l) 24 #[.pointer (some ⟨pb, 0, none⟩)] blk 0 256 256 idA idA W W T idA_size idA_size (SW.start hH) (fun k hk => idA_get k hk) (by omega)
  have hE : ∀ (d' : Array Int), PermIn 0 256 idA d' → SortedIn (lexB (L l)) 0 256 d' → (fun k => d'[k]! % 256) = fun k => if k < 256 then ((MathCodes.order l).getD k 0 : Int) else d'[k]! % 256 := by
    intro d' hp hs
    have ho := MathCodes.order_of_sorted l hin (L l) (fun c hc => by unfold L MathCodes.len rd; rw [emod_nat c hc, Int.toNat_natCast]) idA d' idA_size (fun k hk => idA_get k hk) hp hs
    funext k
    split
    · rename_i hk
      have hk' : k < d'.size := by rw [hp.1, idA_size]; exact hk
      have hol := MathCodes.order_length l hin
      have h1 : d'.toList[k]? = ((MathCodes.order l).map fun c : Nat => (c : Int))[k]? := by rw [ho]
      rw [Array.getElem?_toList, Array.getElem?_eq_getElem hk', List.getElem?_map, List.getElem?_eq_getElem (by omega), Option.map_some] at h1
      rw [getElem!_pos d' k hk', Option.some.inj h1, List.getD_eq_getElem?_getD, List.getElem?_eq_getElem (by omega)]
      have := (MathCodes.mem_order.1 (List.getElem_mem (show k < (MathCodes.order l).length by omega))).1
      exact emod_nat _ this
    · rfl
  go_enter Try.func23, Try.ntmps23
  have H := Lib.hid h; have HE := Lib.hid hE
  clear hcmp hH T h hE
  go_wp2_with (go_at_call 41; refine hS.mono ?_; rintro e w' ⟨rfl, d', hp, hsd, ⟨m, os, rfl⟩⟩)
  go_end0
  refine ⟨rfl, ?_⟩
  have hM := H.out.sorted m d' os (by rw [hp.1, idA_size])
  rw [HE.out d' hp hsd] at hM
  have e : ∀ (f g : Nat → Int), (∀ j, j < 256 → f j = g j) → row .i64 256 f = row .i64 256 g := fun f g hfg => row_ext _ _ _ _ (row_size _ _ _) fun j hj => by rw [row_get _ _ _ _ hj, hfg j hj]
  refine ⟨hM.bd, hM.hb, hM.ne, hM.box, ?_⟩
  have h1 := hM.row
  rw [e _ (fun k => ((MathCodes.order l).getD k 0 : Int)) fun j hj => if_pos hj] at h1
  exact h1

/-! ### Codes -/
def ccells (o : List (Int × Int)) : List Value := o.flatMap fun p => [.int .i64 p.1, .int .u64 p.2]
theorem ccells_length : ∀ (o : List (Int × Int)), (ccells o).length = o.length * 2
  | [] => rfl
  | p :: o => by
    show (_ :: _ :: ccells o).length = _
    simp only [List.length_cons, ccells_length o]
    omega
theorem ccells_get : ∀ (o : List (Int × Int)) (c : Nat) (p : Int × Int), o[c]? = some p → (ccells o)[c * 2]? = some (.int .i64 p.1) ∧ (ccells o)[c * 2 + 1]? = some (.int .u64 p.2)
  | [], c, p, h => by simp at h
  | q :: o, 0, p, h => by
    simp only [List.getElem?_cons_zero, Option.some.injEq] at h
    subst h
    exact ⟨rfl, rfl⟩
  | q :: o, c + 1, p, h => by
    rw [List.getElem?_cons_succ] at h
    have ih := ccells_get o c p h
    rw [show (c + 1) * 2 = c * 2 + 1 + 1 by omega]
    show (_ :: _ :: ccells o)[_]? = _ ∧ (_ :: _ :: ccells o)[_]? = _
    simp only [List.getElem?_cons_succ]
    exact ih
theorem ccells_set : ∀ (o : List (Int × Int)) (c : Nat) (a b : Int), ((ccells o).set (c * 2) (.int .i64 a)).set (c * 2 + 1) (.int .u64 b) = ccells (o.set c (a, b))
  | [], c, a, b => by simp [ccells]
  | q :: o, 0, a, b => rfl
  | q :: o, c + 1, a, b => by
    rw [show (c + 1) * 2 = c * 2 + 1 + 1 by omega, List.set_cons_succ]
    show (((_ :: _ :: ccells o : List Value).set _ _).set _ _) = (_ :: _ :: ccells (o.set c (a, b)) : List Value)
    simp only [List.set_cons_succ]
    rw [ccells_set o c a b]
theorem info_int : (Try.prog.info? 3).map (fun i => (i.zero, i.size, i.bytes)) = some (some (.int .i64 0), 1, 8) := by kernel_rfl
theorem info_code : (Try.prog.info? 33).map (fun i => (i.zero, i.size, i.bytes)) = some (some (.agg #[.int .i64 0, .int .u64 0]), 2, 16) := by kernel_rfl
theorem make_ints (w : World) : (Instr.makeSlice 22 (.int .i64 256) (.int .i64 256)).run Try.prog w = .ok (.slice (some ⟨w.heap.size, 0, none⟩) 256 256) (w.alloc (.cells (row .i64 256 fun _ => 0) 3)) := by
  obtain ⟨i0, hi, hz0, hz1, hz2⟩ := info_parts info_int
  have h := run_make (P := Try.prog) w 22 3 i0 (.int .i64 0) Try.underlying22 hi hz0 .i64 .i64 256 256 (by omega) (by omega) (by rw [hz2]; omega) (by omega)
  rw [hz1, show (256 : Int).toNat = 256 from rfl, made_row] at h
  exact h
theorem zero_codes : madeCells (Value.agg #[.int .i64 0, .int .u64 0]).cells (256 * 2) = (ccells (List.replicate 256 (0, 0))).toArray := by kernel_rfl
theorem make_codes (w : World) : (Instr.makeSlice 28 (.int .i64 256) (.int .i64 256)).run Try.prog w = .ok (.slice (some ⟨w.heap.size, 0, none⟩) 256 256) (w.alloc (.cells (ccells (List.replicate 256 (0, 0))).toArray 33)) := by
  obtain ⟨i0, hi, hz0, hz1, hz2⟩ := info_parts info_code
  have h := run_make (P := Try.prog) w 28 33 i0 (.agg #[.int .i64 0, .int .u64 0]) Try.underlying28 hi hz0 .i64 .i64 256 256 (by omega) (by omega) (by rw [hz2]; omega) (by omega)
  rw [hz1, show (256 : Int).toNat = 256 from rfl, zero_codes] at h
  exact h
/-- What lies in memory at the codes' loop. -/
structure Out (w1 : World) (l : List Int) (A : Option Addr) (c pb blk O : Nat) (o : List (Int × Int)) (W : World) : Prop where
  m : Mem w1 l A c pb blk (fun k => ((MathCodes.order l).getD k 0 : Int)) W
  n1 : O ≠ pb
  n2 : O ≠ blk
  ho : w1.heap.size ≤ O
  row : W.heap[O]? = some (.cells (ccells o).toArray 33 (0, 0))
set_option maxHeartbeats 8000000 in
set_option maxRecDepth 100000 in
theorem codes_yes (l : List Int) (A : Option Addr) (c : Nat) (w : World) (hr : Kd.C (Kd.int .i64) w A l.length l) (hl : l.length = 256) (hin : ∀ c, c < 256 → 0 ≤ MathCodes.len l c ∧ MathCodes.len l c ≤ 40)
    (HF : ∀ W, Below w.heap.size w W → Calls Try.prog 22 #[.slice A l.length c] W fun e w' => e = .returned (.bool true) ∧ Below W.heap.size W w') :
    Calls Try.prog 10 #[.slice A l.length c] w fun e w' => ∃ O, e = .returned (.tuple #[.slice (some ⟨O, 0, none⟩) 256 256, .int .i64 0]) ∧ w.heap.size ≤ O ∧ w'.heap[O]? = some (.cells (ccells (MathCodes.codes l)).toArray 33 (0, 0)) ∧ Below w.heap.size w w' := by
  have mixed := mixed'
  have HR := Lib.hid hr; have HI := Lib.hid hin; have HL := Lib.hid hl
  clear hr hin hl
  obtain ⟨b0, hb0⟩ : ∃ o, o = Obj.cells #[.slice A l.length c] 22 (0, 0) := ⟨_, rfl⟩
  have HB := Lib.hid ((Below.refl w.heap.size w).alloc (Nat.le_refl _) b0)
  have HX := Lib.hid (heap_alloc_new w b0)
  rw [hb0] at HB HX
  clear hb0
  have hcall := HF _ HB.out
  clear HF
  go_enter Try.func10, Try.ntmps10
  go_wp2_with fail
  refine hcall.mono ?_
  rintro e w1 ⟨rfl, hb1⟩
  have hx1 := (hb1.block _ (Row.blk_lt HX.out)).trans HX.out
  have HW1 := Lib.hid (HB.out.trans (hb1.mono HB.out.size))
  have HX1 := Lib.hid hx1
  have hc1 := (Row.one_cell hx1).1
  have hlt : w.heap.size < w1.heap.size := Row.blk_lt hx1
  clear hcall hb1 hx1 HX HB
  have hm1 := make_ints
  have hm2 := make_codes
  go_wp2
  go_loopg [5, 18] 256 (fun gk s5 s18 wr => ∃ k : Nat, s18 = .int .i64 k ∧ k ≤ 256 ∧ 256 - k ≤ gk ∧ Hid (Mem w1 l A c w.heap.size w1.heap.size (fun j => if j < k then (j : Int) else 0) wr))
  case atStart =>
    refine ⟨0, rfl, Nat.zero_le _, by omega, Lib.hid ⟨Bd.alloc w1 _, Nat.le_refl _, by omega, ((Bd.alloc w1 _).below.block _ hlt).trans HX1.out, heap_alloc_new w1 _⟩⟩
  case round =>
    obtain ⟨k, rfl, hk, hgk, HM⟩ := hrel
    by_cases hlk : k < 256
    · have hlz : (k : Int) < 256 := by omega
      have hfr := (row_cells HM.out.row k hlk).2
      have hcl := (row_cells HM.out.row k hlk).1
      have hst : Mem w1 l A c w.heap.size w1.heap.size (fun j => if j < k + 1 then (j : Int) else 0) (wr.setCell ⟨w1.heap.size, k, none⟩ (.int .i64 k)) := by
        have h := HM.out
        refine ⟨h.bd.setCell h.hb _, h.hb, h.ne, Row.set_far _ _ _ _ h.ne h.box, ?_⟩
        rw [Row.blk_set h.row]
        rw [Row.row_set _ _ _ (fun j => if j < k + 1 then (j : Int) else 0) k _ (by simp) (fun j hj hne => by
          by_cases c1 : j < k
          · rw [if_pos (by omega), if_pos c1]
          · rw [if_neg (by omega), if_neg c1])]
      have HST := Lib.hid hst
      clear hst hm1 hm2
      go_wp2
      go_roundg (256 - (k + 1))
      case measure => omega
      case rel => exact ⟨k + 1, by go_num, by omega, by omega, Lib.hid HST.out⟩
    · obtain rfl : k = 256 := by omega
      have hlz : ¬ (256 : Int) < 256 := by omega
      have hmm : Mem w1 l A c w.heap.size w1.heap.size (fun k => k) wr := by
        have h := HM.out
        refine ⟨h.bd, h.hb, h.ne, h.box, ?_⟩
        rw [h.row, Row.row_ext _ _ (fun k => (k : Int)) (row .i64 256 fun j => if j < 256 then (j : Int) else 0) (row_size _ _ _) fun j hj => by rw [row_get _ _ _ _ hj, if_pos hj]]
      have hcall := sort_any w1 l A c w.heap.size w1.heap.size wr hmm (Kd.C_below HR.out HW1.out) HL.out HI.out
      clear hmm hm1 HM
      go_wp2_with fail
      refine hcall.mono ?_
      rintro e w2 ⟨rfl, hM2⟩
      have HO : Hid (Out w1 l A c w.heap.size w1.heap.size w2.heap.size (MathCodes.upto l 0).out (w2.alloc (.cells (ccells (List.replicate 256 (0, 0))).toArray 33))) := by
        have h1 := Row.blk_lt hM2.box
        have h2 := Row.blk_lt hM2.row
        refine Lib.hid ⟨hM2.later (Bd.alloc w2 _), by omega, by omega, hM2.bd.below.size, heap_alloc_new w2 _⟩
      have hsz := hM2.bd.below.size
      obtain ⟨O, hOe⟩ : ∃ O, O = w2.heap.size := ⟨_, rfl⟩
      clear hcall hM2
      go_wp2
      rw [← hOe] at HO hsz ⊢
      clear hOe hm2
      have hol := MathCodes.order_length l HI.out
      have HOL := Lib.hid hol
      clear hol
      go_loopg [7, 8, 32] 256 (fun gk s7 s8 s32 wr => ∃ k : Nat, s32 = .int .i64 k ∧ k ≤ 256 ∧ 256 - k ≤ gk ∧ s7 = .int .u64 (MathCodes.upto l k).next ∧ s8 = .int .i64 (MathCodes.upto l k).long ∧ Hid (Out w1 l A c w.heap.size w1.heap.size O (MathCodes.upto l k).out wr))
      case atStart => exact ⟨0, rfl, Nat.zero_le _, by omega, rfl, rfl, HO⟩
      case round =>
        clear HO
        obtain ⟨k, rfl, hk, hgk, rfl, rfl, HM⟩ := hrel
        by_cases hlk : k < 256
        · have hlz : (k : Int) < 256 := by omega
          have hkl : k < (MathCodes.order l).length := by rw [HOL.out]; exact hlk
          have hmem := MathCodes.mem_order.1 (List.getElem_mem hkl)
          have hsu := MathCodes.upto_succ l k hkl
          have hln := MathCodes.upto_long l k (by omega)
          have hl2 := hln.2 k hkl (Nat.le_refl _)
          have hl1 := hln.1
          have hnx := MathCodes.upto_next l k (by omega)
          have hcl := (row_cells HM.out.m.row k hlk).1
          rw [List.getD_eq_getElem?_getD, List.getElem?_eq_getElem hkl, Option.getD_some] at hcl
          generalize (MathCodes.order l)[k] = x at *
          obtain ⟨hx0, hx1, hx2⟩ := hmem
          have hhd := HM.out.m.held (Kd.C_below HR.out HW1.out)
          have hbx := hhd.pc
          obtain ⟨ad, rfl, hlx⟩ := Kd.at_int hhd.rc (x : Int) (by omega) (by rw [HL.out]; omega)
          rw [Int.toNat_natCast] at hlx
          have hlen : rd l (x : Int) = MathCodes.len l x := by unfold rd MathCodes.len; rw [Int.toNat_natCast]
          rw [hlen] at hlx
          rw [HL.out] at hbx
          have hf1 : wr.frozen? ⟨O, x * 2, none⟩ = false := by simp [World.frozen?, HM.out.row]
          have hf2 : wr.frozen? ⟨O, x * 2 + 1, none⟩ = false := by simp [World.frozen?, HM.out.row]
          have hol2 := MathCodes.upto_out l k
          have hg := ccells_get (MathCodes.upto l k).out x _ (List.getElem?_eq_getElem (show x < (MathCodes.upto l k).out.length by omega))
          have hc1' := (Row.cell_of HM.out.row (by rw [List.getElem?_toArray]; exact hg.1)).1
          have hc2' := (Row.cell_of HM.out.row (by rw [List.getElem?_toArray]; exact hg.2)).1
          generalize ((MathCodes.upto l k).out[x]).1 = o1 at hc1'
          generalize ((MathCodes.upto l k).out[x]).2 = o2 at hc2'
          clear hln hg hhd HI
          generalize MathCodes.upto l k = s at *
          obtain ⟨nx, lg, out⟩ := s
          simp only at *
          have HS := Lib.hid hsu
          clear hsu
          unfold MathCodes.step at HS
          by_cases hpos : 0 < MathCodes.len l x
          · simp only [if_pos hpos] at HS
            generalize MathCodes.len l x = n at *
            have hst : ∀ v, Hid (Out w1 l (some ad) c w.heap.size w1.heap.size O (out.set x (n, v)) ((wr.setCell ⟨O, x * 2, none⟩ (.int .i64 n)).setCell ⟨O, x * 2 + 1, none⟩ (.int .u64 v))) := fun v => by
              have h := HM.out
              have hb1 := h.m.hb
              refine Lib.hid ⟨⟨(h.m.bd.setCell h.ho _).setCell h.ho _, h.m.hb, h.m.ne, Row.set_far _ _ _ _ (Ne.symm h.n1) (Row.set_far _ _ _ _ (Ne.symm h.n1) h.m.box), Row.set_far _ _ _ _ (Ne.symm h.n2) (Row.set_far _ _ _ _ (Ne.symm h.n2) h.m.row)⟩, h.n1, h.n2, h.ho, ?_⟩
              rw [Row.blk_set (Row.blk_set h.row _ _), ← ccells_set out x n v]
              simp
            have z1 : IntKind.i64.wrap (n - lg) = n - lg := by rw [IntKind.wrap_i64]; omega
            have d0 : 0 ≤ n - lg := by omega
            have d1 : n - lg ≤ 40 := by omega
            have hst := hst (MathCodes.shl64 nx (n - lg))
            clear hnx HM
            go_wp2
            go_roundg (256 - (k + 1))
            case measure => omega
            case rel => exact ⟨k + 1, by go_num, by omega, by omega, by rw [HS.out]; rfl, by rw [HS.out], by rw [HS.out]; exact hst⟩
          · simp only [if_neg hpos] at HS
            have HM := Lib.hid HM.out
            clear hnx
            go_wp2
            go_roundg (256 - (k + 1))
            case measure => omega
            case rel => exact ⟨k + 1, by go_num, by omega, by omega, by rw [HS.out], by rw [HS.out], by rw [HS.out]; exact HM⟩
        · obtain rfl : k = 256 := by omega
          have hlz : ¬ (256 : Int) < 256 := by omega
          go_wp2
          go_ret2
          have h := HM.out
          refine ⟨O, rfl, Nat.le_trans HW1.out.size h.ho, ?_, HW1.out.trans (h.m.bd.below.mono HW1.out.size)⟩
          rw [h.row, MathCodes.upto_all l 256 (by rw [HOL.out]; exact Nat.le_refl _)]
/-- Lengths that may not be. -/
theorem codes_no (l : List Int) (A : Option Addr) (c : Nat) (w : World)
    (HF : ∀ W, Below w.heap.size w W → Calls Try.prog 22 #[.slice A l.length c] W fun e w' => e = .returned (.bool false) ∧ Below W.heap.size W w') :
    Calls Try.prog 10 #[.slice A l.length c] w fun e w' => e = .returned (.tuple #[.slice none 0 0, .int .i64 2]) ∧ Below w.heap.size w w' := by
  have HB := Lib.hid ((Below.refl w.heap.size w).alloc (Nat.le_refl _) (Obj.cells #[.slice A l.length c] 22 (0, 0)))
  have hcall := HF _ HB.out
  clear HF
  go_enter Try.func10, Try.ntmps10
  go_wp2_with fail
  refine hcall.mono ?_
  rintro e w1 ⟨rfl, hb1⟩
  go_wp2
  go_ret2
  exact ⟨rfl, HB.out.trans (hb1.mono HB.out.size)⟩
end Go.Proofs.Ytceompmfmceicaa.Codes
