/- slices.All over complex numbers, and phase.Filter, by their contracts. -/
import Derived.Test.YtihnlebpbmhpgaaYCorr
import Derived.RangeFuncBox
import Derived.RangeFuncLeaves
import Derived.OwnWalkIn
import Derived.TacticsInMore
import Derived.LoopNIn
import Derived.LoopIn
namespace Go.Proofs.Ytihnlebpbmhpgaa.Phase
open Go.RowKit Go.Shelf Go.Proofs.Ytihnlebpbmhpgaa.Base Go.Proofs.MathFlt Go.Proofs.YtihnlebpbmhpgaaW.PrintWords
set_option linter.unusedVariables false
set_option linter.unusedSimpArgs false
attribute [local go_sem] run_store_complex run_store_float unary_neg_float Oper.semAt_some

/-- What a round is handed: a place, and a complex number that stands for whole parts. -/
structure El where
  i : Nat
  x : Nat
  y : Nat
  a : Int
  b : Int
  hx : Rep x a
  hy : Rep y b
def El.encs (e : El) : Array Value := #[.int .i64 (e.i : Int), .complex .f64 e.x e.y]
def upto (f : Nat → El) (k : Nat) : List El := (List.range k).map f
theorem upto_succ (f : Nat → El) (k : Nat) : upto f (k + 1) = upto f k ++ [f k] := by simp [upto, List.range_succ]
theorem upto_length (f : Nat → El) (k : Nat) : (upto f k).length = k := by simp [upto]
/-- What the iterator reads between rounds stays. -/
def KK (b Bs : Nat) (W W' : World) : Prop := W'.heap[b]? = W.heap[b]? ∧ W'.heap[Bs]? = W.heap[Bs]?
theorem KK.trans {b Bs : Nat} {A B C : World} (h : KK b Bs A B) (k : KK b Bs B C) : KK b Bs A C := ⟨k.1.trans h.1, k.2.trans h.2⟩
theorem KK.cell {b Bs : Nat} {W W' : World} (h : KK b Bs W W') (o : Nat) : W'.cell? ⟨b, o, none⟩ = W.cell? ⟨b, o, none⟩ ∧ W'.cell? ⟨Bs, o, none⟩ = W.cell? ⟨Bs, o, none⟩ := by
  simp only [World.cell?, h.1, h.2]
  exact ⟨trivial, trivial⟩

set_option maxRecDepth 100000 in
set_option maxHeartbeats 2000000 in
theorem all1_in (n : Nat) (hn : 1 ≤ n) (l Bs b off len cap : Nat) (f : Nat → El) (hreach : len ≤ 9000000000) (hfi : ∀ j, j < len → (f j).i = j) (J Jx : List El → World → Prop)
    (hY : ∀ pre x W, J pre W → pre.length < len → YieldAt Fence.wide (n - 1) Try.prog l (El.encs x) W fun e W' =>
      (e = .returned (.bool true) ∧ J (pre ++ [x]) W' ∧ KK b Bs W W') ∨ (e = .returned (.bool false) ∧ Jx (pre ++ [x]) W'))
    (W : World) (hBs : W.cell? ⟨Bs, 0, none⟩ = some (.slice (some ⟨b, off, none⟩) len cap)) (hc : ∀ j, j < len → W.cell? ⟨b, off + j, none⟩ = some (.complex .f64 (f j).x (f j).y)) (h0 : J [] W) :
    CallsIn Fence.wide n Try.prog 19 #[.func (.yield l) #[] #[], .pointer (some ⟨Bs, 0, none⟩)] W fun e W' => (∃ v, e = .returned v) ∧
      ((∃ ys, ys = upto f len ∧ J ys W') ∨ (∃ pre, (∃ k, k ≤ len ∧ pre = upto f k) ∧ Jx pre W')) := by
  refine callsIn_of_wp Try.func19 rfl trivial ?_ rfl
  simp only [Try.ntmps19, List.size_toArray, List.length_cons, List.length_nil, Nat.reduceAdd, Nat.reduceSub, Array.replicate_succ, Array.replicate_zero, List.push_toArray, List.append_toArray, List.nil_append, List.cons_append]
  gi_wp2
  gi_loopw [7] (fun i wr => ∃ k : Nat, k ≤ len ∧ i = .int .i64 k ∧ J (upto f k) wr ∧ KK b Bs W wr)
    (fun i _ => len - (intOf i).toNat)
  case atStart => exact ⟨0, Nat.zero_le _, rfl, h0, rfl, rfl⟩
  case round =>
    obtain ⟨k, hk, rfl, hJs, hnx⟩ := hrel
    have hcx : k < len → wr.cell? ⟨b, off + k, none⟩ = some (.complex .f64 (f k).x (f k).y) := fun h => ((hnx.cell _).1).trans (hc k h)
    by_cases hlt : k < len
    · obtain ⟨fn, tmps, assign, body, hy, hR⟩ := hY _ (f k) wr hJs (by rw [upto_length]; exact hlt)
      unfold El.encs at hy
      rw [hfi k hlt] at hy
      have hcx' := hcx hlt
      gi_wp2
      refine hR.mono ?_
      rintro e W3 (⟨rfl, hJ3, hk3⟩ | ⟨rfl, hJx3⟩)
      · gi_wp2
        go_roundw
        case rel => exact ⟨k + 1, by omega, by simp, by rw [upto_succ]; exact hJ3, hnx.trans hk3⟩
        case measure => simp [intOf]; omega
      · gi_wp2
        refine bodyPost_ret (results_none rfl _ _ _) rfl ?_
        exact ⟨⟨_, rfl⟩, .inr ⟨_, ⟨k + 1, by omega, (upto_succ _ _).symm⟩, hJx3⟩⟩
    · obtain rfl : k = len := by omega
      gi_wp2
      go_end0
      exact ⟨⟨_, rfl⟩, .inl ⟨_, rfl, hJs⟩⟩

set_option maxRecDepth 100000 in
set_option maxHeartbeats 1000000 in
theorem all1_nil_in (n : Nat) (l Bs : Nat) (J : List El → World → Prop) (W : World) (hBs : W.cell? ⟨Bs, 0, none⟩ = some (.slice none 0 0)) (h0 : J [] W) :
    CallsIn Fence.wide n Try.prog 19 #[.func (.yield l) #[] #[], .pointer (some ⟨Bs, 0, none⟩)] W fun e W' => (∃ v, e = .returned v) ∧ J [] W' := by
  refine callsIn_of_wp Try.func19 rfl trivial ?_ rfl
  simp only [Try.ntmps19, List.size_toArray, List.length_cons, List.length_nil, Nat.reduceAdd, Nat.reduceSub, Array.replicate_succ, Array.replicate_zero, List.push_toArray, List.append_toArray, List.nil_append, List.cons_append]
  gi_wp2
  gi_loopw [7] (fun i wr => i = .int .i64 0 ∧ J [] wr) (fun _ _ => 0)
  case atStart => exact ⟨rfl, h0⟩
  case round =>
    obtain ⟨rfl, hJs⟩ := hrel
    gi_wp2
    go_end0
    exact ⟨⟨_, rfl⟩, hJs⟩

set_option maxHeartbeats 1000000 in
theorem all_in (n : Nat) (a : Option Addr) (len cap : Nat) (w : World) :
    CallsIn Fence.wide n Try.prog 16 #[.slice a len cap] w fun e w' => e = .returned (.func (.func 19) #[] #[.pointer (some ⟨w.heap.size, 0, none⟩)]) ∧ w' = w.alloc (.cells #[.slice a len cap] 24) := by
  refine callsIn_of_wp Try.func16 rfl trivial ?_ rfl
  simp only [Try.ntmps16, List.size_toArray, List.length_cons, List.length_nil, Nat.reduceAdd, Nat.reduceSub, Array.replicate_succ, Array.replicate_zero, List.push_toArray, List.append_toArray, List.nil_append, List.cons_append]
  gi_wp2
  go_ret
  exact ⟨rfl, rfl⟩

/-- The row of values that a slice holds, or nil. -/
def Vals (W : World) (b : Nat) (sv : Value) (f : Nat → El) (m : Nat) : Prop :=
  (sv = .slice none 0 0 ∧ m = 0) ∨ ∃ cap, sv = .slice (some ⟨b, 0, none⟩) m cap ∧ ∀ j, j < m → W.cell? ⟨b, j, none⟩ = some (.complex .f64 (f j).x (f j).y)

theorem all_stops (n : Nat) (hn : 1 ≤ n) (Bs b : Nat) (sv : Value) (f : Nat → El) (m : Nat) (hreach : m ≤ 9000000000) (hfi : ∀ j, j < m → (f j).i = j) (w : World) (hb : b < w.heap.size) (hBs : Bs < w.heap.size)
    (hc : w.cell? ⟨Bs, 0, none⟩ = some sv) (hI : Vals w b sv f m) :
    SeqStopsK Fence.wide n Try.prog 19 #[.pointer (some ⟨Bs, 0, none⟩)] El.encs (KK b Bs) (fun ys => ys = upto f m)
      (fun pre => ∃ k, k ≤ m ∧ pre = upto f k) m w := fun l J Jx W hW _ _ hY h0 => by
  have hc' := (hW.cell (p := ⟨Bs, 0, none⟩) hBs).trans hc
  rcases hI with ⟨rfl, rfl⟩ | ⟨cap, rfl, hcs⟩
  · exact (all1_nil_in n l Bs J W hc' h0).mono fun e W' ⟨he, hj⟩ => ⟨he, .inl ⟨_, rfl, hj⟩⟩
  · refine all1_in n hn l Bs b 0 m cap f hreach hfi J Jx hY W hc' (fun j hj => ?_) h0
    rw [Nat.zero_add]
    exact (hW.cell (p := ⟨b, j, none⟩) hb).trans (hcs j hj)

/-- Which are let through. -/
def sel (np : Int) (l : List El) : List Int := (l.filter fun e => decide (e.a = np) && decide (e.b = 0)).map fun e => (e.i : Int)
theorem sel_push (np : Int) (l : List El) (e : El) : sel np (l ++ [e]) = if (decide (e.a = np) && decide (e.b = 0)) = true then sel np l ++ [(e.i : Int)] else sel np l := by
  unfold sel
  rw [List.filter_append, List.map_append]
  simp only [List.filter_cons, List.filter_nil]
  by_cases h : (decide (e.a = np) && decide (e.b = 0)) = true
  · rw [if_pos h, if_pos h]; rfl
  · rw [if_neg h, if_neg h]; simp
def flt (t p : List Int) (m : Nat) : List Int := ((List.range m).filter fun j => decide (c1 t p j p.length = (p.length : Int)) && decide (c2 t p j p.length = 0)).map fun j : Nat => (j : Int)
theorem sel_upto (t p : List Int) (f : Nat → El) (m : Nat) (hfi : ∀ j, j < m → (f j).i = j) (ha : ∀ j, j < m → (f j).a = c1 t p j p.length) (hb : ∀ j, j < m → (f j).b = c2 t p j p.length) : sel (p.length : Int) (upto f m) = flt t p m := by
  unfold sel upto flt
  rw [List.filter_map, List.map_map]
  have h1 : (List.range m).filter ((fun e : El => decide (e.a = (p.length : Int)) && decide (e.b = 0)) ∘ f) = (List.range m).filter fun j => decide (c1 t p j p.length = (p.length : Int)) && decide (c2 t p j p.length = 0) := by
    refine List.filter_congr fun j hj => ?_
    have hj := List.mem_range.1 hj
    simp only [Function.comp, ha j hj, hb j hj]
  rw [h1]
  refine List.map_congr_left fun j hj => ?_
  have hj := List.mem_range.1 (List.mem_filter.1 hj).1
  simp only [Function.comp, hfi j hj]
theorem els_of {t p : List Int} {m : Nat} {vals : List Value} (h : CVals t p m vals) : ∃ f : Nat → El, ∀ j, j < m → (f j).i = j ∧ vals.getD j undef = .complex .f64 (f j).x (f j).y ∧ (f j).a = c1 t p j p.length ∧ (f j).b = c2 t p j p.length := by
  have hz : ∀ j : Nat, ∃ e : El, j < m → e.i = j ∧ vals.getD j undef = .complex .f64 e.x e.y ∧ e.a = c1 t p j p.length ∧ e.b = c2 t p j p.length := by
    intro j
    by_cases hj : j < m
    · obtain ⟨x, y, he, hx, hy⟩ := h.2 j hj
      exact ⟨⟨j, x, y, _, _, hx, hy⟩, fun _ => ⟨rfl, he, rfl, rfl⟩⟩
    · exact ⟨⟨j, 0, 0, 0, 0, rep_zero, rep_zero⟩, fun h => absurd h hj⟩
  exact ⟨fun j => Classical.choose (hz j), fun j hj => Classical.choose_spec (hz j) hj⟩
theorem infoI : (Try.prog.info? 3).map (fun i => (i.zero, i.size, i.bytes)) = some (some (.int .i64 0), 1, 8) := by kernel_rfl
def nums (l : List Int) : List Value := l.map (Value.int .i64)
def SomeNums (l : List Int) (W : World) (e : Ending) (w' : World) : Prop := ∃ v, e = .returned v ∧ w'.ownsRow W.heap.size 3 1 v l.length (nums l) ∧ Below W.heap.size W w'

set_option maxRecDepth 100000 in
set_option maxHeartbeats 4000000 in
theorem filter_in (A : Option Addr) (c : Nat) (t : List Int) (A' : Option Addr) (c' : Nat) (p : List Int) (w : World) (hn : t.length ≤ 1000) (hp : p.length ≤ 1000) (hA : ∀ k, k < t.length → ∃ ad, A = some ad ∧ w.cell? (ad.add k) = some (.int .u8 (t.getD k 0))) (hb8 : ∀ k, k < t.length → 0 ≤ t.getD k 0 ∧ t.getD k 0 < 256)
    (hA' : ∀ k, k < p.length → ∃ ad, A' = some ad ∧ w.cell? (ad.add k) = some (.int .u8 (p.getD k 0))) (hb8' : ∀ k, k < p.length → 0 ≤ p.getD k 0 ∧ p.getD k 0 < 256) (m : Nat) (hm : (m : Int) = max 0 ((t.length : Int) - p.length + 1)) :
    CallsIn Fence.wide 6 Try.prog 10 #[.slice A t.length c, .slice A' p.length c'] w (SomeNums (flt t p m) w) := by
  obtain ⟨i0, hi, hz0, hz1, hz2⟩ := info_parts infoI
  refine callsIn_of_wp_marks Try.func10 rfl trivial ?_ rfl
  simp only [Try.ntmps10, List.size_toArray, List.length_cons, List.length_nil, Nat.reduceAdd, Nat.reduceSub, Array.replicate_succ, Array.replicate_zero, List.push_toArray, List.append_toArray, List.nil_append, List.cons_append]
  gi_wp2_with fail
  obtain ⟨W0, hW0⟩ : ∃ W0, W0 = (w.alloc (Obj.cells #[Value.slice none 0 0] 32)).alloc (Obj.cells #[Value.complex .f64 (floatOfInt .f64 (p.length : Int)) 0] 27) := ⟨_, rfl⟩
  rw [← hW0]
  have hB0 : Below w.heap.size w W0 := by rw [hW0]; exact ((Below.refl _ w).alloc (Nat.le_refl _) _).alloc (by simp) _
  have hs0 : W0.heap.size = w.heap.size + 2 := by rw [hW0]; simp
  have bO : Boxed W0 w.heap.size 32 (.slice none 0 0) := by rw [hW0]; exact (Boxed.new w _ _).alloc _
  have bA : Boxed W0 (w.heap.size + 1) 27 (.complex .f64 (floatOfInt .f64 (p.length : Int)) 0) := by
    have h := Boxed.new (w.alloc (Obj.cells #[Value.slice none 0 0] 32)) 27 (.complex .f64 (floatOfInt .f64 (p.length : Int)) 0)
    rw [World.size_alloc] at h
    rw [hW0]
    exact h
  clear hW0
  have hnp : Rep (floatOfInt .f64 (p.length : Int)) (p.length : Int) := rep_of_int (p.length : Int) (by omega)
  refine ⟨trivial, ((callsIn_wide (n := 5)).2 (corr_any A c t A' c' p W0 hn hp (fun k hk => ?_) hb8 (fun k hk => ?_) hb8' m hm)).mono ?_⟩
  · obtain ⟨ad, e, h⟩ := hA k hk
    exact ⟨ad, e, bcellv hB0 h⟩
  · obtain ⟨ad, e, h⟩ := hA' k hk
    exact ⟨ad, e, bcellv hB0 h⟩
  rintro e w2 ⟨v, vals, rfl, hO, hV, hB⟩
  obtain ⟨f, hf⟩ := els_of hV
  have hVals : ∃ b a len cap, v = .slice a len cap ∧ Vals w2 b v f m ∧ w.heap.size + 1 ≤ b ∧ b < w2.heap.size := by
    have hsz := hB.size
    rcases hO with ⟨hl, ⟨rfl, h0⟩ | ⟨g, cap, cur, rfl, hg, hh, hle, hcm, hcs, htk⟩⟩
    · exact ⟨w.heap.size + 1, none, 0, 0, rfl, .inl ⟨rfl, h0⟩, Nat.le_refl _, by omega⟩
    · refine ⟨g, _, _, _, rfl, .inr ⟨cap, rfl, fun j hj => ?_⟩, by omega, (Array.getElem?_eq_some_iff.1 hh).1⟩
      have h1 := (hf j hj).2.1
      rw [List.getD_eq_getElem?_getD] at h1
      simp only [World.cell?, hh]
      have h2 : (cur.toList.take (m * 1))[j]? = vals[j]? := by rw [htk]
      rw [List.getElem?_take_of_lt (by omega)] at h2
      have h3 : cur[j]? = vals[j]? := by simpa using h2
      show cur[j]? = _
      rw [h3]
      have hjl : j < vals.length := by rw [hV.1]; exact hj
      rw [List.getElem?_eq_getElem hjl] at h1 ⊢
      rw [← h1]
      rfl
  obtain ⟨b, a, len, cap, hv, hVv, hbge, hblt⟩ := hVals
  subst hv
  have hB2 : Below w.heap.size w w2 := hB0.trans (hB.mono (by omega))
  have hsz2 := hB.size
  have bO2 : Boxed w2 w.heap.size 32 (.slice none 0 0) := (hB.block _ (by omega)).trans bO
  have bA2 : Boxed w2 (w.heap.size + 1) 27 (.complex .f64 (floatOfInt .f64 (p.length : Int)) 0) := (hB.block _ (by omega)).trans bA
  gi_wp2_with fail
  refine ⟨trivial, (all_in 5 a len cap w2).mono ?_⟩
  rintro e w3 ⟨rfl, rfl⟩
  gi_wp2_with fail
  obtain ⟨np, hnpe⟩ : ∃ np, np = floatOfInt .f64 (p.length : Int) := ⟨_, rfl⟩
  rw [← hnpe] at hnp bA2 ⊢
  clear hnpe bA bO hA hA' hb8 hb8' hB hB0 hO
  have hreach : m ≤ 1001 := by omega
  obtain ⟨W3, hW3⟩ : ∃ W3, W3 = w2.alloc (Obj.cells #[Value.slice a len cap] 24) := ⟨_, rfl⟩
  have hs3 : W3.heap.size = w2.heap.size + 1 := by rw [hW3]; simp
  have bS3 : W3.cell? ⟨w2.heap.size, 0, none⟩ = some (.slice a len cap) := by rw [hW3]; exact (Boxed.new w2 _ _).cell
  have bO3 : Boxed W3 w.heap.size 32 (.slice none 0 0) := by rw [hW3]; exact bO2.alloc _
  have bA3 : Boxed W3 (w.heap.size + 1) 27 (.complex .f64 np 0) := by rw [hW3]; exact bA2.alloc _
  have hB3 : Below w.heap.size w W3 := by rw [hW3]; exact hB2.alloc (by omega) _
  have hV3 : Vals W3 b (.slice a len cap) f m := by
    rcases hVv with h | ⟨cap', h1, h2⟩
    · exact .inl h
    · refine .inr ⟨cap', h1, fun j hj => ?_⟩
      rw [hW3]
      exact (Bd.alloc w2 _).cell (h2 j hj)
  rw [← hW3]
  clear hW3 bO2 bA2 hVv
  refine wpIn_rangeFunc_ownG (w := W3) (w0 := W3) rfl (by omega) (gf := 19) (lb := #[.pointer (some ⟨w2.heap.size, 0, none⟩)]) rfl trivial (enters_of Try.func19 (by kernel_rfl) rfl)
    (all_stops 5 (by omega) w2.heap.size b (.slice a len cap) f m (by omega) (fun j hj => (hf j hj).1) W3 (by omega) (by omega) bS3 hV3) KK.trans (fun W l o o' hl h _ _ => ⟨World.putObj_heap_other (by omega), World.putObj_heap_other (by omega)⟩) (Below.refl _ _) (fun _ => rfl)
    (fun pre W => ((∃ v, Boxed W w.heap.size 32 v ∧ W.ownsRow W3.heap.size 3 1 v (sel (p.length : Int) pre).length (nums (sel (p.length : Int) pre)) ∧ True) ∧ W.cell? ⟨w.heap.size + 1, 0, none⟩ = some (.complex .f64 np 0)) ∧ Below w.heap.size W3 W)
    (fun _ _ _ => False)
    (OwnFrom.and (OwnFrom.and (Own.from (holdsRow_own W3.heap.size w.heap.size 32 3 1 (fun pre => (sel (p.length : Int) pre).length) (fun pre => nums (sel (p.length : Int) pre)) (fun _ _ => True)) _) (Own.from (fun s A B row hs hg hr => cell_kept hs hg hr) _)) (ownFrom_below (by omega) (by omega)))
    (fun _ _ _ _ _ hs _ _ => hs)
    ⟨⟨⟨_, bO3, World.ownsRow_nil _ _ _ _, trivial⟩, bA3.cell⟩, Below.refl _ _⟩
    (fun x => { tmps := #[.slice A t.length c, .slice A' p.length c', undef, undef, .slice none 0 0, .pointer (some ⟨w.heap.size, 0, none⟩), .pointer (some ⟨w.heap.size + 1, 0, none⟩), .int .i64 (x.i : Int), .complex .f64 x.x x.y, .slice A' p.length c', .int .i64 (p.length : Int), .float .f64 np, .complex .f64 np 0, .slice A t.length c, .slice A' p.length c', .slice a len cap, .func (.func 19) #[] #[.pointer (some ⟨w2.heap.size, 0, none⟩)], .int .i64 (x.i : Int), .complex .f64 x.x x.y, undef, undef, undef, undef, undef, undef, undef, undef], defers := [] }) ?assign ?body ?done ?stop
  case assign =>
    intro l x W K hK
    unfold El.encs
    gi_wp2
    exact hK
  case body =>
    rintro l pre x W ⟨⟨⟨v, hv, hrow, -⟩, hca⟩, hBw⟩ hlt
    have hc := hv.cell
    have hpl : (sel (p.length : Int) pre).length ≤ pre.length := by unfold sel; rw [List.length_map]; exact List.length_filter_le _ _
    have q1 := ord_eq x.hx hnp
    have q2 := ord_eq x.hy rep_zero
    have hwz := hBw.size
    have hsp := sel_push (p.length : Int) pre x
    have HSP := Lib.hid hsp
    clear hsp
    by_cases hsel : (decide (x.a = (p.length : Int)) && decide (x.b = 0)) = true
    · have HS := Lib.hid hsel
      simp only [Bool.and_eq_true, decide_eq_true_eq] at hsel
      rw [decide_eq_true hsel.1] at q1
      rw [decide_eq_true hsel.2] at q2
      clear hsel
      gi_wp2_with (gi_at_builtin; refine wpListIn_append_own _ rfl _ _ 32 rfl W3.heap.size 3 i0 (.int .i64 0) 1 8 Try.underlying32 hi hz0 hz1 hz2 rfl (by decide) _ _ _ rfl (hrow.alloc _) ⟨W.heap.size, 0, none⟩ 1 1 [.int .i64 (x.i : Int)] rfl rfl (cell_one_new _ _ _) (by simp [Value.oneCell']) (by unfold maxLen; omega) (by omega) (by simp; omega) ?_; intro v' w1 hown' hgrow _; obtain ⟨g', cap', rfl⟩ := ownsRow_succ hown'; obtain ⟨hv1, hv2, hr2, hk2, hb2⟩ := Boxed.appended hv (by decide) (own_weaken hrow (by omega : w.heap.size ≤ W3.heap.size)) (by omega) (Nat.le_refl _) (own_weaken hown' (by omega : w.heap.size ≤ W3.heap.size)) hgrow; have hc1 := hv1.cell; have hf1 := hv1.frozen)
      have hr3 := hown'.kept (grownBy_setCell' w1 w.heap.size (.slice (some ⟨g', 0, none⟩) ((sel (p.length : Int) pre).length + 1) cap')) (.inr (hv1.not_row (by decide) hown').symm)
      have hne : ∀ k, k < W3.heap.size → k ≠ w.heap.size → (w1.setCell ⟨w.heap.size, 0, none⟩ (.slice (some ⟨g', 0, none⟩) ((sel (p.length : Int) pre).length + 1) cap')).heap[k]? = W.heap[k]? := by
        intro k hk hk2
        rw [Below.heap_setCell w1 ⟨w.heap.size, 0, none⟩ _ k hk2]
        rw [hgrow.block k (by simp; omega) (fun e => by have := own_base hrow k e.symm; omega)]
        exact Below.heap_alloc _ _ _ (by omega)
      refine ⟨hk2.from _, ⟨hne b (by omega) (by omega), hne w2.heap.size (by omega) (by omega)⟩, ⟨⟨_, hv2, ?_, trivial⟩, ?_⟩, hBw.trans hb2⟩
      · rw [HSP.out, if_pos HS.out]
        unfold nums
        rw [List.map_append, List.length_append]
        exact hr3
      · have h := hne (w.heap.size + 1) (by omega) (by omega)
        simp only [World.cell?, h] at hca ⊢
        exact hca
    · have HS := Lib.hid hsel
      have q3 : ((FloatKind.f64.format.order x.x np == some .eq) && (FloatKind.f64.format.order x.y 0 == some .eq)) = false := by
        rw [q1, q2]
        exact Bool.eq_false_iff.2 hsel
      clear hsel q1 q2
      gi_wp2
      refine ⟨KeepsFrom.refl _ _, ⟨rfl, rfl⟩, ⟨⟨v, hv, ?_, trivial⟩, hca⟩, hBw⟩
      rw [HSP.out, if_neg HS.out]
      exact hrow
  case done =>
    rintro D ys W hD rfl ⟨⟨⟨v, hv, hrow, -⟩, hca⟩, hBw⟩ hK
    have hc := hv.cell
    gi_wp2
    refine ⟨by simp, .inl ⟨_, _, rfl, run_takeDeferred hK, ?_⟩⟩
    rw [sel_upto t p f m (fun j hj => (hf j hj).1) (fun j hj => (hf j hj).2.2.1) (fun j hj => (hf j hj).2.2.2)] at hrow
    exact ⟨_, results_tmp rfl _ _ _, v, rfl, own_weaken (ownsRow_putObj hrow _ hK rfl) (by omega), (hB3.trans hBw).trans (belowK_b (w := W3) (by omega) W D _ _ hD hK rfl rfl)⟩
  case stop =>
    rintro D c pre W _ _ h _
    exact h.elim
end Go.Proofs.Ytihnlebpbmhpgaa.Phase
