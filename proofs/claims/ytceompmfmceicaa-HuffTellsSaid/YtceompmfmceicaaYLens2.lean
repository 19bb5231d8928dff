/- huff.Lengths: walked by hand. -/
import Derived.Test.YtceompmfmceicaaYLens
import Derived.Test.YtceompmfmceicaaWTab
import Derived.Test.YtceompmfmceicaaWLast
namespace Go.Proofs.Ytceompmfmceicaa.Heap
open Go.RowKit Go.Shelf Go.Lib Go.Proofs Go.Proofs.YtceompmfmceicaaW.PrintWords Go.Proofs.YtceompmfmceicaaW.PrintLast Go.Proofs.YtceompmfmceicaaW.PrintMore Go.Proofs.MathHeap Go.Proofs.MathHuff
set_option linter.unusedVariables false
set_option linter.unusedSimpArgs false

def lens.T18 : Bool × List (List Nat × List Nat) := (true, [([], []), ([], []), ([1], [1]), ([2], [2]), ([3], [3]), ([], []), ([5], [5]), ([6], [6]), ([7], [7]), ([], []), ([8, 9], [8, 9]), ([10], [10]), ([11], [11]), ([], []), ([13], [13]), ([14], [14]), ([15], [15]), ([], []), ([16, 17], [16, 17]), ([18], [18]), ([19], [19]), ([12, 20], [12, 20]), ([], []), ([21, 22], [21, 22]), ([23], [23]), ([4, 24], [4, 24]), ([0, 0, 1, 2, 3, 4, 5, 6, 7, 8, 9, 10, 11, 12, 13, 14, 15, 16, 17, 18, 19, 20, 21, 22, 23, 24, 25], [0]), ([26, 0, 1, 2, 3, 4, 5, 6, 7, 8, 9, 10, 11, 12, 13, 14, 15, 16, 17, 18, 19, 20, 21, 22, 23, 24, 25], [26]), ([27, 25, 25, 0, 1, 2, 3, 4, 5, 6, 7, 8, 9, 10, 11, 12, 13, 14, 15, 16, 17, 18, 19, 20, 21, 22, 23, 24, 25], [25, 27])])
def lens.B18 : List Nat := [0, 0, 2, 6, 14, 0, 32, 96, 224, 0, 992, 2016, 4064, 0, 8192, 24576, 57344, 0, 253952, 516096, 1040384, 2097120, 0, 8388576, 16777184, 33554430, 67108863, 134217727, 268435455]
theorem lens.tab18 : rtab .any (opsOf Try.f9 18) = lens.T18 := by kernel_rfl
theorem lens.bits18 : waitsOk lens.T18.2 lens.B18 = true := by kernel_rfl
theorem info_int : (Try.prog.info? 3).map (fun i => (i.zero, i.size, i.bytes)) = some (some (.int .i64 0), 1, 8) := by kernel_rfl
theorem make_ints (w : World) : (Instr.makeSlice 22 (.int .i64 256) (.int .i64 256)).run Try.prog w = .ok (.slice (some ⟨w.heap.size, 0, none⟩) 256 256) (w.alloc (.cells (Row.row .i64 256 fun _ => 0) 3)) := by
  obtain ⟨i0, hi, hz0, hz1, hz2⟩ := info_parts info_int
  have h := run_make (P := Try.prog) w 22 3 i0 (.int .i64 0) Try.underlying22 hi hz0 .i64 .i64 256 256 (by omega) (by omega) (by rw [hz2]; omega) (by omega)
  rw [hz1, show (256 : Int).toNat = 256 from rfl, Row.made_row] at h
  exact h
theorem begin_ids (counts : List Int) : (begin_ counts).map It.id = live counts 256 := by
  unfold begin_ live
  rw [List.map_map]
  exact List.map_id _
theorem begin_mem {counts : List Int} {t : It} (h : t ∈ begin_ counts) : ∃ c, c < 256 ∧ 0 < cnt counts c ∧ t = ⟨c, cnt counts c, [c]⟩ := by
  unfold begin_ at h
  obtain ⟨c, hc, rfl⟩ := List.mem_map.1 h
  obtain ⟨h1, h2⟩ := List.mem_filter.1 hc
  exact ⟨c, List.mem_range.1 h1, of_decide_eq_true h2, rfl⟩
theorem sim_begin (counts : List Int) : Sim ((begin_ counts).map It.w).sum (things counts 256) (begin_ counts) noughts := by
  refine ⟨?_, fun t ht => ?_, List.length_replicate, by rw [things_length]; exact Nat.le_refl _, fun c hc => ?_, fun t ht => ?_, fun t ht => ?_, rfl, fun x y t ht hy => ?_⟩
  · rw [begin_ids]
    exact List.nodup_range.filter _
  · obtain ⟨c, hc, _, rfl⟩ := begin_mem ht
    exact things_get counts 256 c hc
  · refine ⟨0, c, ?_, .stop (things_get counts 256 c hc) rfl, fun t ht => ?_⟩
    · unfold noughts
      rw [List.getD_eq_getElem?_getD, List.getElem?_replicate, if_pos hc]
      rfl
    · obtain ⟨d, hd, _, rfl⟩ := begin_mem ht
      simp
  · obtain ⟨d, hd, _, rfl⟩ := begin_mem ht
    refine ⟨by simp, fun c hc => ?_⟩
    simp at hc
    omega
  · obtain ⟨d, hd, hp, rfl⟩ := begin_mem ht
    exact hp
  · have hx := (List.getElem?_eq_some_iff.1 ht).1
    rw [things_length] at hx
    rw [things_get counts 256 x hx] at ht
    obtain rfl := Option.some.inj ht
    have : (-1 : Int) = (y : Int) := hy
    omega
theorem sum_le (counts : List Int) (hin : ∀ k : Nat, k < 256 → 0 ≤ rd counts (k : Int) ∧ rd counts (k : Int) ≤ 1048576) : ((begin_ counts).map It.w).sum ≤ 268435456 := by
  have h : ∀ (l : List It), (∀ t ∈ l, t.w ≤ 1048576) → (l.map It.w).sum ≤ l.length * 1048576 := by
    intro l
    induction l with
    | nil => intro _; simp
    | cons t l ih =>
      intro h
      have h1 := h t (List.mem_cons_self ..)
      have h2 := ih fun s hs => h s (List.mem_cons_of_mem _ hs)
      simp only [List.map_cons, List.sum_cons, List.length_cons]
      omega
  have h2 := h (begin_ counts) fun t ht => by
    obtain ⟨c, hc, _, rfl⟩ := begin_mem ht
    have := (hin c hc).2
    unfold rd at this
    rw [Int.toNat_natCast] at this
    exact this
  have h3 : (begin_ counts).length ≤ 256 := by
    have := congrArg List.length (begin_ids counts)
    rw [List.length_map] at this
    rw [this]
    exact live_length counts 256
  omega
theorem two_le {S : Int} {T : List Th} {a b : It} {l : List It} {out : List Int} (h : Sim S T (a :: b :: l) out) : 0 < a.w ∧ 0 < b.w ∧ a.w + b.w ≤ S := by
  have pa := h.pos a (List.mem_cons_self ..)
  have pb := h.pos b (List.mem_cons_of_mem _ (List.mem_cons_self ..))
  have hn : ∀ (l : List It), (∀ t ∈ l, 0 < t.w) → 0 ≤ (l.map It.w).sum := by
    intro l
    induction l with
    | nil => intro _; simp
    | cons t l ih =>
      intro h
      have h1 := h t (List.mem_cons_self ..)
      have h2 := ih fun s hs => h s (List.mem_cons_of_mem _ hs)
      simp only [List.map_cons, List.sum_cons]
      omega
  have h1 := hn l fun t ht => h.pos t (List.mem_cons_of_mem _ (List.mem_cons_of_mem _ ht))
  have h2 := h.sum
  simp only [List.map_cons, List.sum_cons] at h2
  omega
theorem Heaped.perm {T : List Th} {l l' : List Nat} {L : Nat → Nat} {n : Nat} (h : Heaped T l L n) (hp : l.Perm l') : Heaped T l' L n := ⟨h.ord, h.ids.trans hp⟩
/-- The one that a thing became is written. -/
theorem Hp.rise {base H g cap N : Nat} {T : List Th} {L : Nat → Nat} {n : Nat} {W : World} (h : Hp base H (.slice (some ⟨g, 0, none⟩) N cap) T L n W) {x : Nat} {t : Th} (ht : T[x]? = some t) (u : Int) :
    Hp base H (.slice (some ⟨g, 0, none⟩) N cap) (T.set x { t with up := u }) L n (W.setCell ⟨g, x * 3 + 2, none⟩ (.int .i64 u)) := by
  have hx := (List.getElem?_eq_some_iff.1 ht).1
  have hne : g ≠ H := fun e => h.ne (by rw [e]; rfl)
  refine ⟨h.hb, Row.set_far _ _ _ _ (Ne.symm hne) h.h, ?_, h.ne⟩
  rcases h.o.2 with ⟨hv, h0⟩ | ⟨g', cap', cur, hv, hg, hc, hle, hm, hs, htk⟩
  · omega
  · injection hv with e1 e2 e3
    injection e1 with e1
    injection e1 with e1
    subst e1
    subst e2
    subst e3
    refine ⟨by rw [List.length_set, tcells_length, List.length_set], .inr ⟨g, cap, _, by rw [List.length_set], hg, Row.blk_set hc _ _, by rw [List.length_set]; exact hle, hm, by rw [Array.size_setIfInBounds]; exact hs, ?_⟩⟩
    rw [List.length_set, Array.toList_setIfInBounds, List.take_set, htk]
    exact tcells_up T x t u ht
theorem sim_tail {S : Int} {T : List Th} {t : It} {l : List It} {out : List Int} (h : Sim S T (t :: l) out) : Sim (S - t.w) T l out := by
  have nod := h.nod
  simp only [List.map_cons, List.nodup_cons] at nod
  refine ⟨nod.2, fun s hs => h.it s (List.mem_cons_of_mem _ hs), h.sz, h.big, fun c hc => ?_, fun s hs => h.syms s (List.mem_cons_of_mem _ hs), fun s hs => h.pos s (List.mem_cons_of_mem _ hs), ?_, h.asc⟩
  · obtain ⟨d, r, h1, h2, h3⟩ := h.ch c hc
    exact ⟨d, r, h1, h2, fun s hs => h3 s (List.mem_cons_of_mem _ hs)⟩
  · have := h.sum
    simp only [List.map_cons, List.sum_cons] at this
    omega
theorem getD_is {T : List Th} {x : Nat} {t : Th} (h : T[x]? = some t) : T.getD x none_ = t := by
  rw [List.getD_eq_getElem?_getD, h]
  rfl
theorem merged_same (T : List Th) (a b : Nat) (s : Int) (x : Nat) (hx : x < T.length) (ha : a < T.length) (hb : b < T.length) : ((mergeT T a b s).getD x none_).w = (T.getD x none_).w ∧ ((mergeT T a b s).getD x none_).id = (T.getD x none_).id := by
  by_cases eb : x = b
  · subst eb
    rw [getD_is (mergeT_b T a x s hb)]
    exact ⟨rfl, rfl⟩
  · by_cases ea : x = a
    · subst ea
      rw [getD_is (mergeT_a T x b s ha eb)]
      exact ⟨rfl, rfl⟩
    · rw [List.getD_eq_getElem?_getD, mergeT_old T a b s x hx ea eb, ← List.getD_eq_getElem?_getD]
      exact ⟨rfl, rfl⟩
theorem Heaped.merged {T : List Th} {l : List Nat} {L : Nat → Nat} {n : Nat} (h : Heaped T l L n) (hl : ∀ y ∈ l, y < T.length) (a b : Nat) (s : Int) (ha : a < T.length) (hb : b < T.length) : Heaped (mergeT T a b s) l L n := by
  refine ⟨h.ord.same fun i j hi hj => ?_, h.ids⟩
  have e1 := merged_same T a b s (L i) (h.lt hl i hi) ha hb
  have e2 := merged_same T a b s (L j) (h.lt hl j hj) ha hb
  unfold ltT bef
  rw [e1.1, e1.2, e2.1, e2.2]
theorem hgo_step {f next : Nat} {l : List It} {out : List Int} (h : 2 ≤ l.length) (hf : l.length ≤ f + 1) : ∃ f', f = f' + 1 ∧ hgo f next l out = hgo f' (next + 1) (rest (rest l) ++ [join next l]) (bump out ((least l).syms ++ (least (rest l)).syms)) := by
  obtain ⟨f', rfl⟩ : ∃ f', f = f' + 1 := ⟨f - 1, by omega⟩
  refine ⟨f', rfl, ?_⟩
  show (if l.length ≤ 1 then out else _) = _
  rw [if_neg (by omega)]
theorem slice_blk {g g' n n' c c' : Nat} (h : Value.slice (some ⟨g, 0, none⟩) n c = .slice (some ⟨g', 0, none⟩) n' c') : g = g' := by
  injection h with e
  injection e with e
  injection e
/-- What comes of it. -/
def Lensed (counts : List Int) (w : World) (e : Ending) (w' : World) : Prop := ∃ O, e = .returned (.tuple #[.slice (some ⟨O, 0, none⟩) 256 256, .int .i64 0]) ∧ w.heap.size ≤ O ∧ w'.heap[O]? = some (.cells (Row.row .i64 256 fun k => (lens counts).getD k 0) 3 (0, 0)) ∧ Below w.heap.size w w'
/-- While the lengths are counted. -/
structure Tail (w : World) (counts : List Int) (O : Nat) (v : Value) (T : List Th) (L : Nat → Nat) (n : Nat) (outL : List Int) (k : Nat) (W : World) : Prop where
  below : Below w.heap.size w W
  hO : w.heap.size < O
  out : W.heap[O]? = some (.cells (Row.row .i64 256 fun j => if j < k then outL.getD j 0 else 0) 3 (0, 0))
  hp : Hp w.heap.size w.heap.size v T L n W
/-- While one length is counted. -/
structure Count (w : World) (O : Nat) (v : Value) (T : List Th) (L : Nat → Nat) (n : Nat) (outL : List Int) (k i : Nat) (W : World) : Prop where
  below : Below w.heap.size w W
  hO : w.heap.size < O
  out : W.heap[O]? = some (.cells (Row.row .i64 256 fun j => if j < k then outL.getD j 0 else if j = k then (i : Int) else 0) 3 (0, 0))
  hp : Hp w.heap.size w.heap.size v T L n W
/-- Between two merges. -/
structure Mid (w : World) (counts : List Int) (O n : Nat) (W : World) : Prop where
  below : Below w.heap.size w W
  hO : w.heap.size < O
  out : W.heap[O]? = some (.cells (Row.row .i64 256 fun _ => 0) 3 (0, 0))
  ex : ∃ v T L its outL f S, Hp w.heap.size w.heap.size v T L n W ∧ v.ownBlock ≠ some O ∧ Heaped T (its.map It.id) L n ∧ Sim S T its outL ∧ S ≤ 268435456 ∧ its.length ≤ f + 1 ∧ hgo f T.length its outL = lens counts ∧ T.length + n ≤ 512
set_option maxHeartbeats 8000000 in
set_option maxRecDepth 100000 in
theorem lens_any (HB : Bef) (counts : List Int) (A : Option Addr) (c : Nat) (w : World) (hr : Kd.C (Kd.int .i64) w A counts.length counts) (hc : Huff.countedB counts = true) :
    Calls Try.prog 9 #[.slice A counts.length c] w (Lensed counts w) := by
  have mixed := mixed'
  have hcount := Huff.counted_any A c counts w hr
  rw [hc] at hcount
  obtain ⟨hl, hin⟩ := Huff.counted_in hc
  have HR := Lib.hid hr; have HI := Lib.hid hin; have HL := Lib.hid hl
  rw [hl] at hcount ⊢
  clear hr hin hl hc
  have hz := zero_heap
  go_enter Try.func9, Try.ntmps9
  go_wp2_with (go_at_call 19; refine hcount.mono ?_; rintro e w' ⟨rfl, rfl⟩)
  have L0 : Hid (Laid w counts 0 (w.alloc (Obj.cells (hcells (Value.slice none 0 0) (fun _ => 0) 0) 56))) := Lib.hid ⟨(Below.refl _ _).alloc (Nat.le_refl _) _, _, _, 0, ⟨Nat.le_refl _, heap_alloc_new w _, ⟨rfl, .inl ⟨rfl, rfl⟩⟩, by simp [Value.ownBlock]⟩, ⟨fun j h1 h2 => absurd h2 (Nat.not_lt_zero _), List.Perm.refl _⟩⟩
  clear hz
  go_loopg [5, 6, 20] 256 (fun gk s5 s6 s20 wr => ∃ k : Nat, s20 = .int .i64 k ∧ k ≤ 256 ∧ 256 - k ≤ gk ∧ Hid (Laid w counts k wr))
  case atStart => exact ⟨0, rfl, Nat.zero_le _, by omega, L0⟩
  case round =>
    clear L0
    obtain ⟨k, rfl, hk, hgk, HM⟩ := hrel
    by_cases hlk : k < 256
    · have hlz : (k : Int) < 256 := by omega
      obtain ⟨v, L, n, hp, hd⟩ := HM.out.ex
      have HBW := Lib.hid HM.out.below
      obtain ⟨ad, rfl, hlx⟩ := Kd.at_int (Kd.C_below HR.out HBW.out) (k : Int) (by omega) (by rw [HL.out]; omega)
      rw [Int.toNat_natCast] at hlx
      have hrd : rd counts (k : Int) = cnt counts k := by unfold rd cnt; rw [Int.toNat_natCast]
      have hbd := HI.out k hlk
      rw [hrd] at hlx hbd
      obtain ⟨q1, q2⟩ := hp.cell0
      have hll := hd.length
      have hll2 := live_length counts k
      have HP := Lib.hid hp; have HD := Lib.hid hd
      have hos := hp.o
      rw [things_length] at hos
      have HOS := Lib.hid hos
      have hbs := HBW.out.size
      have HTH := Lib.hid (things_succ counts k); have HLV := Lib.hid (live_succ counts k)
      have hth : Hid (thCells (thOf counts k) = [.int .i64 (cnt counts k), .int .i64 (k : Int), .int .i64 (-1)]) := Lib.hid rfl
      clear hp hd hos HM hrd
      generalize cnt counts k = x at *
      go_wp2_with ((with_reducible refine gate_dst (N := 34) rfl ?_); refine print_append_cells (w0 := w) w.heap.size rfl (.tmp 29) (.tmp 33) 53 58 (.agg #[.int .i64 0, .int .i64 0, .int .i64 0]) 3 24 rfl Try.underlying53 info_thing rfl (by decide) (by decide) v k (tcells (things counts k)) [.int .i64 x, .int .i64 (k : Int), .int .i64 (-1)] rfl rfl rfl ?a1 HOS.out HBW.out hbs ?a2 ?_)
      case a1 => intro u hu; simp at hu; rcases hu with rfl | rfl | rfl <;> rfl
      case a2 => omega
      intro v1 w1 hown hb1 hg1 hat
      obtain ⟨g1, cap1, rfl⟩ := own_form hown (by omega)
      have hap := HP.out.appended (thOf counts k) (by rw [things_length, hth.out]; exact hown) hg1 hat
      rw [← HTH.out] at hap
      obtain ⟨hH1, hp1⟩ := hap
      obtain ⟨q3, q4⟩ := Row.cell_of hH1 (hcells_0 v L n)
      have HB1 := Lib.hid (hb1.setCell (p := ⟨w.heap.size, 0, none⟩) (Nat.le_refl _) (.slice (some ⟨g1, 0, none⟩) (k + 1) cap1))
      have hd1 := HD.out.more (fun y hy => by rw [things_length]; exact live_lt counts k y hy) (thOf counts k)
      rw [← HTH.out] at hd1
      have HP1 := Lib.hid hp1; have HD1 := Lib.hid hd1
      clear hH1 hp1 hd1 hown hb1 hg1 hat q1 q2 hbs
      by_cases hx : 0 < x
      · have hlv := HLV.out
        rw [if_pos hx] at hlv
        have hpush := push_any HB HP1.out (ord _) HD1.out (fun y hy => by rw [things_length]; have := live_lt counts k y hy; omega) k (by rw [things_length]; omega) (by omega)
        have HPU := Lib.hid hpush
        have HLV2 := Lib.hid hlv
        clear hpush hlv
        go_wp2_with fail
        refine HPU.out.mono ?_
        rintro e w2 ⟨rfl, L2, hp2, hd2, hk2⟩
        have HM2 : Hid (Laid w counts (k + 1) w2) := Lib.hid ⟨HB1.out.trans (hk2.to (Nat.le_refl _) HB1.out.size), _, L2, n + 1, hp2, by rw [HLV2.out]; exact hd2⟩
        clear hp2 hd2 hk2
        go_wp2
        go_roundg (256 - (k + 1))
        case measure => omega
        case rel => exact ⟨k + 1, by go_num, by omega, by omega, HM2⟩
      · have hlv := HLV.out
        rw [if_neg hx] at hlv
        have HM2 : Hid (Laid w counts (k + 1) (w1.setCell ⟨w.heap.size, 0, none⟩ (.slice (some ⟨g1, 0, none⟩) (k + 1) cap1))) := Lib.hid ⟨HB1.out, _, L, n, HP1.out, by rw [hlv]; exact HD1.out⟩
        clear hlv
        go_wp2
        go_roundg (256 - (k + 1))
        case measure => omega
        case rel => exact ⟨k + 1, by go_num, by omega, by omega, HM2⟩
    · obtain rfl : k = 256 := by omega
      have hlz : ¬ (256 : Int) < 256 := by omega
      obtain ⟨v, L, n, hp, hd⟩ := HM.out.ex
      have HBW := Lib.hid HM.out.below
      have hll := hd.length
      have hll2 := live_length counts 256
      have hT := things_length counts 256
      obtain ⟨q1, q2⟩ := hp.celln
      obtain ⟨c1, c2⟩ := hp.cell 0 (by omega)
      have hlt := hd.lt (fun y hy => by rw [hT]; exact live_lt counts 256 y hy)
      rw [Nat.add_zero] at c1 c2
      have hbs := HBW.out.size
      have hHs : w.heap.size < wr.heap.size := Row.blk_lt hp.h
      have hmk := make_ints
      have HP := Lib.hid hp; have HD := Lib.hid hd
      have hO1 : Hid ((wr.alloc (Obj.cells (Row.row .i64 256 fun _ => 0) 3)).heap[wr.heap.size]? = some (.cells (Row.row .i64 256 fun _ => 0) 3 (0, 0))) := Lib.hid (heap_alloc_new wr _)
      have hB1 := (Below.refl wr.heap.size wr).alloc (Nat.le_refl _) (Obj.cells (Row.row .i64 256 fun _ => 0) 3)
      have HP1 := Lib.hid (hp.later hB1)
      have HBW1 := Lib.hid (HBW.out.trans (hB1.mono HBW.out.size))
      have hvO : v.ownBlock ≠ some wr.heap.size := by
        intro e
        rcases hp.o.2 with ⟨rfl, _⟩ | ⟨g, cap, cur, rfl, hg, hc, _⟩
        · cases e
        · have := Row.blk_lt hc
          have e : g = wr.heap.size := by simpa [Value.ownBlock] using e
          omega
      have HVO := Lib.hid hvO
      have hn2 : n ≤ 256 := by omega
      obtain ⟨O, hOe⟩ : ∃ O, O = wr.heap.size := ⟨_, rfl⟩
      clear hp hd hB1 HM hT hvO HP c1 c2 q1 q2
      go_upto_region 12 with (fail)
      generalize wr.alloc (Obj.cells (Row.row .i64 256 fun _ => 0) 3) = W1 at hO1 HP1 HBW1 ⊢
      rw [← hOe] at hO1 HVO hHs ⊢
      clear hOe hbs
      by_cases hn1 : n = 1
      · subst hn1
        have hx0 := hlt 0 (by omega)
        rw [things_length] at hx0
        have hids := HD.out.ids
        have hlens : lens counts = noughts.set (L 0) 1 := by
          have e1 : live counts 256 = [L 0] := (List.perm_singleton.1 hids.symm)
          have e2 := begin_ids counts
          rw [e1] at e2
          have e3 : (begin_ counts).length = 1 := by
            have := congrArg List.length e2
            simpa using this
          have hne : begin_ counts ≠ [] := by intro e; rw [e] at e3; cases e3
          have e4 : (least (begin_ counts)).id ∈ (begin_ counts).map It.id := List.mem_map.2 ⟨_, least_mem hne, rfl⟩
          rw [e2, List.mem_singleton] at e4
          unfold lens
          rw [if_pos e3, e4]
        have HLE := Lib.hid hlens
        obtain ⟨z1, z2⟩ := Row.row_cells hO1.out (L 0) hx0
        have hx1 : ((L 0 : Nat) : Int) < 256 := by omega
        have hx2 : (0 : Int) ≤ ((L 0 : Nat) : Int) := by omega
        obtain ⟨c1', c2'⟩ := HP1.out.cell 0 (by omega)
        rw [Nat.add_zero] at c1' c2'
        obtain ⟨q1', q2'⟩ := HP1.out.celln
        have HB2 := Lib.hid (HBW1.out.setCell (p := ⟨O, L 0, none⟩) (by show w.heap.size ≤ O; omega) (.int .i64 1))
        have HO2 : Hid ((W1.setCell ⟨O, L 0, none⟩ (.int .i64 1)).heap[O]? = some (.cells (Row.row .i64 256 fun k => (noughts.set (L 0) 1).getD k 0) 3 (0, 0))) := by
          refine Lib.hid ?_
          rw [Row.blk_set hO1.out]
          rw [Row.row_set .i64 256 (fun _ => 0) (fun k => (noughts.set (L 0) 1).getD k 0) (L 0) 1 (by
            show (noughts.set (L 0) 1).getD (L 0) 0 = 1
            rw [List.getD_eq_getElem?_getD, List.getElem?_set_self (by show L 0 < noughts.length; rw [show noughts.length = 256 from List.length_replicate]; exact hx0)]
            rfl) (fun j hj hne => by
            show (noughts.set (L 0) 1).getD j 0 = 0
            rw [List.getD_eq_getElem?_getD, List.getElem?_set_ne (Ne.symm hne)]
            unfold noughts
            rw [List.getElem?_replicate, if_pos hj]
            rfl)]
        clear hids hlt hO1 HP1 HVO hlens
        generalize L 0 = x0 at *
        go_wp2
        go_ret2
        exact ⟨O, rfl, by omega, by rw [HLE.out]; exact HO2.out, HB2.out⟩
      · have hnz : ((n : Int) == 1) = false := by simp only [beq_eq_false_iff_ne, ne_eq]; omega
        obtain ⟨q1', q2'⟩ := HP1.out.celln
        have hbl : (begin_ counts).length = n := by
          have := congrArg List.length (begin_ids counts)
          rw [List.length_map] at this
          omega
        have HMID : Hid (Mid w counts O n W1) :=
          Lib.hid ⟨HBW1.out, hHs, hO1.out, v, _, L, begin_ counts, noughts, 256, _, HP1.out, HVO.out, HD.out.perm (by rw [begin_ids]), sim_begin counts, sum_le counts HI.out, by omega, by
            rw [things_length]
            unfold lens
            rw [if_neg (by omega)], by rw [things_length]; omega⟩
        clear hlt hO1 HP1 HVO HBW1 HD HBW hbl
        go_wp2
        clear q1' q2' hmk hnz hn1 hll hll2
        go_loopg [8] 512 (fun gk s8 wr => ∃ n, n < 512 ∧ n ≤ gk ∧ Hid (Mid w counts O n wr))
        case atStart => exact ⟨n, by omega, by omega, HMID⟩
        case round =>
          clear HMID
          obtain ⟨n, hn3, hgk, HMID⟩ := hrel
          by_cases hgt : 1 < n
          · obtain ⟨m, rfl⟩ : ∃ m, n = m + 2 := ⟨n - 2, by omega⟩
            have hzn : (1 : Int) < ((m + 1 + 1 : Nat) : Int) := by omega
            obtain ⟨hbw, hO, hout, v, T, L, its, outL, f, S, hp, hvO, hd, hsim, hS, hf, hgo, hTn⟩ := HMID.out
            have hidl := hd.length
            rw [List.length_map] at hidl
            have hlt : ∀ y ∈ its.map It.id, y < T.length := fun y hy => by
              obtain ⟨t, ht, rfl⟩ := List.mem_map.1 hy
              exact (List.getElem?_eq_some_iff.1 (hsim.it t ht)).1
            have hbs := hbw.size
            have hpop1 := pop_any (n := m + 1) HB hp (ord T) hd hlt (by omega)
            obtain ⟨q1, q2⟩ := hp.celln
            have HBW := Lib.hid hbw; have HOUT := Lib.hid hout; have HVO := Lib.hid hvO; have HSIM := Lib.hid hsim; have HGO := Lib.hid hgo; have HLT := Lib.hid hlt
            clear hbw hout hvO hsim hgo hlt hd hp HMID
            go_wp2_with fail
            refine hpop1.mono ?_
            rintro e w2 ⟨a, l1, L1, rfl, hp1, hm1, hpw1, hd1, hk1⟩
            obtain ⟨hne1, ha1, hr1⟩ := HSIM.out.takes (List.Perm.refl _) hp1 hm1
            have hlt1 : ∀ y ∈ l1, y < T.length := fun y hy => HLT.out y (hp1.mem_iff.2 (List.mem_cons_of_mem _ hy))
            have hsim1 : Sim S T (least its :: rest its) outL := HSIM.out.perm (rest_perm hne1)
            have hpop2 := pop_any (n := m) HB hpw1 (ord T) hd1 hlt1 (by omega)
            have HK1 := Lib.hid hk1; have HA1 := Lib.hid ha1; have HR1 := Lib.hid hr1; have HS1 := Lib.hid hsim1; have HN1 := Lib.hid hne1; have HP1 := Lib.hid hp1; have HLT1 := Lib.hid hlt1
            clear hpop1 hp1 hm1 hpw1 hd1 hk1 hr1 hsim1 hne1 hlt1 q1 q2 ha1
            go_wp2_with fail
            refine hpop2.mono ?_
            rintro e w3 ⟨b, l2, L2, rfl, hp2, hm2, hpw2, hd2, hk2⟩
            clear hpop2
            have hrl : (rest its).length = m + 1 := by have := rest_length HN1.out; omega
            have hne2 : rest its ≠ [] := by intro e; rw [e] at hrl; cases hrl
            obtain ⟨_, hb2, hr2⟩ := (sim_tail HS1.out).takes HR1.out hp2 hm2
            have hsim2 : Sim S T (least its :: least (rest its) :: rest (rest its)) outL := HS1.out.perm ((rest_perm hne2).cons _)
            obtain ⟨f', hff, hgs⟩ := hgo_step (next := T.length) (out := outL) (show 2 ≤ its.length by omega) hf
            have hrr : (rest (rest its)).length = m := by have := rest_length hne2; omega
            have hw := two_le hsim2
            have hmg := hsim2.merge
            have ta := hsim2.it _ (List.mem_cons_self ..)
            have tb := hsim2.it _ (List.mem_cons_of_mem _ (List.mem_cons_self ..))
            have hlt2 : ∀ y ∈ l2, y < T.length := fun y hy => HLT1.out y (hp2.mem_iff.2 (List.mem_cons_of_mem _ hy))
            have ha1 := HA1.out
            have hnab : a ≠ b := by
              have := hsim2.nod
              simp only [List.map_cons, List.nodup_cons, List.mem_cons, not_or] at this
              rw [ha1, hb2]
              exact this.1.1
            rw [← ha1, ← hb2] at hmg
            rw [← ha1] at ta
            rw [← hb2] at tb
            have hjoin : (⟨T.length, (least its).w + (least (rest its)).w, (least its).syms ++ (least (rest its)).syms⟩ : It) = join T.length its := rfl
            rw [hjoin] at hmg
            have hal := (List.getElem?_eq_some_iff.1 ta).1
            have hbl := (List.getElem?_eq_some_iff.1 tb).1
            have hd3 := (hd2.merged hlt2 a b ((least its).w + (least (rest its)).w) hal hbl)
            have hids3 : (l2 ++ [T.length]).Perm ((rest (rest its) ++ [join T.length its]).map It.id) := by
              rw [List.map_append]
              exact hr2.append_right _
            have hgo2 := HGO.out
            rw [hgs] at hgo2
            have hlen2 : (rest (rest its) ++ [join T.length its]).length ≤ f' + 1 := by rw [List.length_append, List.length_singleton]; omega
            have HF := Lib.hid (And.intro hmg (And.intro hgo2 (And.intro hids3 (And.intro hlen2 hd3))))
            clear hmg hgo2 hids3 hlen2 hgs hff hf hsim2 hr2 hp2 hm2 hd3 hrl hrr hne2 HSIM HGO HR1 HS1 HN1 HP1 hb2 hd2 hidl
            clear hjoin ha1 HA1
            generalize rest (rest its) ++ [join T.length its] = its2 at HF
            generalize bump outL ((least its).syms ++ (least (rest its)).syms) = out2 at HF
            generalize (least its).w = wa at *
            generalize (least (rest its)).w = wb at *
            obtain ⟨g, cap, rfl, hgH, hgb, hca⟩ := hpw2.thing ta
            obtain ⟨g', cap', e2, _, _, hcb⟩ := hpw2.thing tb
            obtain ⟨rfl, rfl⟩ : g' = g ∧ cap' = cap := by
              injection e2 with e3 _ e4
              injection e3 with e3
              injection e3 with e3
              exact ⟨e3.symm, e4.symm⟩
            clear e2
            have qa := (hca 0 _ rfl).1
            have qb := (hcb 0 _ rfl).1
            rw [Nat.add_zero] at qa qb
            have q1 := hpw2.cell0.1
            have hO3 : w3.heap[O]? = some (.cells (Row.row .i64 256 fun _ => 0) 3 (0, 0)) := (hk2.far O (by have := Row.blk_lt HOUT.out; have := HK1.out.size; omega) (by omega)).trans ((HK1.out.far O (Row.blk_lt HOUT.out) (by omega)).trans HOUT.out)
            have hb3 : Below w.heap.size w w3 := HBW.out.trans ((HK1.out.to (Nat.le_refl _) HBW.out.size).trans (hk2.to (Nat.le_refl _) (by have := HK1.out.size; have := HBW.out.size; omega)))
            have HPP := Lib.hid hpw2.drew
            have HBD := Lib.hid hb3.drew
            have HOS := Lib.hid (own_drew hpw2.o)
            have HKP : Hid (w3.drew.heap[O]? = some (.cells (Row.row .i64 256 fun _ => 0) 3 (0, 0))) := Lib.hid hO3
            have HBS : Hid (w.heap.size ≤ w3.drew.heap.size) := Lib.hid hb3.size
            have HTA := Lib.hid ta; have HTB := Lib.hid tb
            clear hk2 hpw2 hO3 hb3 hca hcb ta tb HK1 HOUT HBW hbs
            have hx1 : (a : Int) < (T.length : Int) := by omega
            have hx2 : (b : Int) < (T.length : Int) := by omega
            have hx3 : (0 : Int) ≤ (a : Int) := by omega
            have hx4 : (0 : Int) ≤ (b : Int) := by omega
            have hx5 : IntKind.i64.wrap (wa + wb) = wa + wb := by rw [IntKind.wrap_i64]; omega
            go_wp2
            refine start_ (n := 29) (S := fun w' => w'.cell? ⟨w.heap.size, 0, none⟩ = some (.slice (some ⟨g', 0, none⟩) T.length cap') ∧ w'.cell? ⟨g', a * 3, none⟩ = some (.int .i64 wa) ∧ w'.cell? ⟨g', b * 3, none⟩ = some (.int .i64 wb)) (ds := [25, 28]) #[false, false, false, false, false, false, false, false, false, false, false, false, false, false, false, false, false, false, false, false, false, false, false, false, false, false, false, false, false] (by kernel_rfl) rfl rfl ⟨q1, qa, qb⟩ (fun hHeld => ?_)
            refine with_tabW lens.tab18 lens.bits18 (fun HT_ HW_ => ?_)
            generalize w3.drew = w4 at HPP HBD HOS HKP HBS hHeld ⊢
            refine pure_ (i := 0) (N := some 71) (v := ?_) (a' := ?_) #[true, false, false, false, false, false, false, false, false, false, false, false, false, false, false, false, false, false, false, false, false, false, false, false, false, false, false, false, false] rfl rfl (any_of HT_.out (by kernel_rfl)) (fun _ _ _ h => h) (Or.inl ⟨by rfl, ?_⟩) ?_ ?_
            rotate_left
            · intro w'
              go_simp
              with_reducible rfl
            rotate_left
            · simp only [Act.put, List.setIfInBounds_toArray, List.set_cons_zero, List.set_cons_succ]
              rfl
            refine pure_ (i := 1) (N := some 72) (v := ?_) (a' := ?_) #[true, true, false, false, false, false, false, false, false, false, false, false, false, false, false, false, false, false, false, false, false, false, false, false, false, false, false, false, false] rfl rfl (any_of HT_.out (by kernel_rfl)) (fun _ _ _ h => h) (Or.inl ⟨by rfl, ?_⟩) ?_ ?_
            rotate_left
            · intro w'
              go_simp
              with_reducible rfl
            rotate_left
            · simp only [Act.put, List.setIfInBounds_toArray, List.set_cons_zero, List.set_cons_succ]
              rfl
            refine pure_ (i := 2) (N := some 73) (v := ?_) (a' := ?_) #[true, true, true, false, false, false, false, false, false, false, false, false, false, false, false, false, false, false, false, false, false, false, false, false, false, false, false, false, false] rfl rfl (any_of HT_.out (by kernel_rfl)) (fun _ _ _ h => h) (Or.inl ⟨by rfl, ?_⟩) ?_ ?_
            rotate_left
            · intro w'
              go_simp
              with_reducible rfl
            rotate_left
            · simp only [Act.put, List.setIfInBounds_toArray, List.set_cons_zero, List.set_cons_succ]
              rfl
            refine pure_ (i := 3) (N := some 74) (v := ?_) (a' := ?_) #[true, true, true, true, false, false, false, false, false, false, false, false, false, false, false, false, false, false, false, false, false, false, false, false, false, false, false, false, false] rfl rfl (any_of HT_.out (by kernel_rfl)) (fun _ _ _ h => h) (Or.inl ⟨by rfl, ?_⟩) ?_ ?_
            rotate_left
            · intro w'
              go_simp
              with_reducible rfl
            rotate_left
            · simp only [Act.put, List.setIfInBounds_toArray, List.set_cons_zero, List.set_cons_succ]
              rfl
            refine pure_ (i := 5) (N := some 76) (v := ?_) (a' := ?_) #[true, true, true, true, false, true, false, false, false, false, false, false, false, false, false, false, false, false, false, false, false, false, false, false, false, false, false, false, false] rfl rfl (any_of HT_.out (by kernel_rfl)) (fun _ _ _ h => h) (Or.inl ⟨by rfl, ?_⟩) ?_ ?_
            rotate_left
            · intro w'
              go_simp
              with_reducible rfl
            rotate_left
            · simp only [Act.put, List.setIfInBounds_toArray, List.set_cons_zero, List.set_cons_succ]
              rfl
            refine pure_ (i := 6) (N := some 77) (v := ?_) (a' := ?_) #[true, true, true, true, false, true, true, false, false, false, false, false, false, false, false, false, false, false, false, false, false, false, false, false, false, false, false, false, false] rfl rfl (any_of HT_.out (by kernel_rfl)) (fun _ _ _ h => h) (Or.inl ⟨by rfl, ?_⟩) ?_ ?_
            rotate_left
            · intro w'
              go_simp
              with_reducible rfl
            rotate_left
            · simp only [Act.put, List.setIfInBounds_toArray, List.set_cons_zero, List.set_cons_succ]
              rfl
            refine pure_ (i := 7) (N := some 78) (v := ?_) (a' := ?_) #[true, true, true, true, false, true, true, true, false, false, false, false, false, false, false, false, false, false, false, false, false, false, false, false, false, false, false, false, false] rfl rfl (any_of HT_.out (by kernel_rfl)) (fun _ _ _ h => h) (Or.inl ⟨by rfl, ?_⟩) ?_ ?_
            rotate_left
            · intro w'
              go_simp
              with_reducible rfl
            rotate_left
            · simp only [Act.put, List.setIfInBounds_toArray, List.set_cons_zero, List.set_cons_succ]
              rfl
            refine pure_ (i := 9) (N := some 80) (v := ?_) (a' := ?_) #[true, true, true, true, false, true, true, true, false, true, false, false, false, false, false, false, false, false, false, false, false, false, false, false, false, false, false, false, false] rfl rfl (any_of HT_.out (by kernel_rfl)) (fun _ _ _ h => h) (Or.inl ⟨by rfl, ?_⟩) ?_ ?_
            rotate_left
            · intro w'
              go_simp
              with_reducible rfl
            rotate_left
            · simp only [Act.put, List.setIfInBounds_toArray, List.set_cons_zero, List.set_cons_succ]
              rfl
            refine pure_ (i := 13) (N := some 84) (v := ?_) (a' := ?_) #[true, true, true, true, false, true, true, true, false, true, false, false, false, true, false, false, false, false, false, false, false, false, false, false, false, false, false, false, false] rfl rfl (any_of HT_.out (by kernel_rfl)) (fun _ _ _ h => h) (Or.inl ⟨by rfl, ?_⟩) ?_ ?_
            rotate_left
            · intro w'
              go_simp
              with_reducible rfl
            rotate_left
            · simp only [Act.put, List.setIfInBounds_toArray, List.set_cons_zero, List.set_cons_succ]
              rfl
            refine pure_ (i := 14) (N := some 85) (v := ?_) (a' := ?_) #[true, true, true, true, false, true, true, true, false, true, false, false, false, true, true, false, false, false, false, false, false, false, false, false, false, false, false, false, false] rfl rfl (any_of HT_.out (by kernel_rfl)) (fun _ _ _ h => h) (Or.inl ⟨by rfl, ?_⟩) ?_ ?_
            rotate_left
            · intro w'
              go_simp
              with_reducible rfl
            rotate_left
            · simp only [Act.put, List.setIfInBounds_toArray, List.set_cons_zero, List.set_cons_succ]
              rfl
            refine pure_ (i := 15) (N := some 86) (v := ?_) (a' := ?_) #[true, true, true, true, false, true, true, true, false, true, false, false, false, true, true, true, false, false, false, false, false, false, false, false, false, false, false, false, false] rfl rfl (any_of HT_.out (by kernel_rfl)) (fun _ _ _ h => h) (Or.inl ⟨by rfl, ?_⟩) ?_ ?_
            rotate_left
            · intro w'
              go_simp
              with_reducible rfl
            rotate_left
            · simp only [Act.put, List.setIfInBounds_toArray, List.set_cons_zero, List.set_cons_succ]
              rfl
            refine pure_ (i := 17) (N := some 88) (v := ?_) (a' := ?_) #[true, true, true, true, false, true, true, true, false, true, false, false, false, true, true, true, false, true, false, false, false, false, false, false, false, false, false, false, false] rfl rfl (any_of HT_.out (by kernel_rfl)) (fun _ _ _ h => h) (Or.inl ⟨by rfl, ?_⟩) ?_ ?_
            rotate_left
            · intro w'
              go_simp
              with_reducible rfl
            rotate_left
            · simp only [Act.put, List.setIfInBounds_toArray, List.set_cons_zero, List.set_cons_succ]
              rfl
            refine pure_ (i := 22) (N := some 93) (v := ?_) (a' := ?_) #[true, true, true, true, false, true, true, true, false, true, false, false, false, true, true, true, false, true, false, false, false, false, true, false, false, false, false, false, false] rfl rfl (any_of HT_.out (by kernel_rfl)) (fun _ _ _ h => h) (Or.inl ⟨by rfl, ?_⟩) ?_ ?_
            rotate_left
            · intro w'
              go_simp
              with_reducible rfl
            rotate_left
            · simp only [Act.put, List.setIfInBounds_toArray, List.set_cons_zero, List.set_cons_succ]
              rfl
            refine take_ (i := 4) (N := some 75) (v := ?_) (a' := ?_) #[true, true, true, true, true, true, true, true, false, true, false, false, false, true, true, true, false, true, false, false, false, false, true, false, false, false, false, false, false] rfl rfl (take_ofW HT_.out HW_.out (by kernel_rfl)) (fun _ _ _ h => h) (Or.inl ⟨by rfl, ?_⟩) hHeld ?_ ?_
            rotate_left
            · rintro w' ⟨s0, s1, s2⟩
              go_simp
              with_reducible rfl
            rotate_left
            · simp only [Act.put, List.setIfInBounds_toArray, List.set_cons_zero, List.set_cons_succ]
              rfl
            refine take_ (i := 8) (N := some 79) (v := ?_) (a' := ?_) #[true, true, true, true, true, true, true, true, true, true, false, false, false, true, true, true, false, true, false, false, false, false, true, false, false, false, false, false, false] rfl rfl (take_ofW HT_.out HW_.out (by kernel_rfl)) (fun _ _ _ h => h) (Or.inl ⟨by rfl, ?_⟩) hHeld ?_ ?_
            rotate_left
            · rintro w' ⟨s0, s1, s2⟩
              go_simp
              with_reducible rfl
            rotate_left
            · simp only [Act.put, List.setIfInBounds_toArray, List.set_cons_zero, List.set_cons_succ]
              rfl
            refine pure_ (i := 10) (N := some 81) (v := ?_) (a' := ?_) #[true, true, true, true, true, true, true, true, true, true, true, false, false, true, true, true, false, true, false, false, false, false, true, false, false, false, false, false, false] rfl rfl (any_of HT_.out (by kernel_rfl)) (fun _ _ _ h => h) (Or.inl ⟨by rfl, ?_⟩) ?_ ?_
            rotate_left
            · intro w'
              go_simp
              with_reducible rfl
            rotate_left
            · simp only [Act.put, List.setIfInBounds_toArray, List.set_cons_zero, List.set_cons_succ]
              rfl
            refine pure_ (i := 11) (N := some 82) (v := ?_) (a' := ?_) #[true, true, true, true, true, true, true, true, true, true, true, true, false, true, true, true, false, true, false, false, false, false, true, false, false, false, false, false, false] rfl rfl (any_of HT_.out (by kernel_rfl)) (fun _ _ _ h => h) (Or.inl ⟨by rfl, ?_⟩) ?_ ?_
            rotate_left
            · intro w'
              go_simp
              with_reducible rfl
            rotate_left
            · simp only [Act.put, List.setIfInBounds_toArray, List.set_cons_zero, List.set_cons_succ]
              rfl
            refine take_ (i := 12) (N := some 83) (v := ?_) (a' := ?_) #[true, true, true, true, true, true, true, true, true, true, true, true, true, true, true, true, false, true, false, false, false, false, true, false, false, false, false, false, false] rfl rfl (take_ofW HT_.out HW_.out (by kernel_rfl)) (fun _ _ _ h => h) (Or.inl ⟨by rfl, ?_⟩) hHeld ?_ ?_
            rotate_left
            · rintro w' ⟨s0, s1, s2⟩
              go_simp
              with_reducible rfl
            rotate_left
            · simp only [Act.put, List.setIfInBounds_toArray, List.set_cons_zero, List.set_cons_succ]
              rfl
            refine take_ (i := 16) (N := some 87) (v := ?_) (a' := ?_) #[true, true, true, true, true, true, true, true, true, true, true, true, true, true, true, true, true, true, false, false, false, false, true, false, false, false, false, false, false] rfl rfl (take_ofW HT_.out HW_.out (by kernel_rfl)) (fun _ _ _ h => h) (Or.inl ⟨by rfl, ?_⟩) hHeld ?_ ?_
            rotate_left
            · rintro w' ⟨s0, s1, s2⟩
              go_simp
              with_reducible rfl
            rotate_left
            · simp only [Act.put, List.setIfInBounds_toArray, List.set_cons_zero, List.set_cons_succ]
              rfl
            refine pure_ (i := 18) (N := some 89) (v := ?_) (a' := ?_) #[true, true, true, true, true, true, true, true, true, true, true, true, true, true, true, true, true, true, true, false, false, false, true, false, false, false, false, false, false] rfl rfl (any_of HT_.out (by kernel_rfl)) (fun _ _ _ h => h) (Or.inl ⟨by rfl, ?_⟩) ?_ ?_
            rotate_left
            · intro w'
              go_simp
              with_reducible rfl
            rotate_left
            · simp only [Act.put, List.setIfInBounds_toArray, List.set_cons_zero, List.set_cons_succ]
              rfl
            refine pure_ (i := 19) (N := some 90) (v := ?_) (a' := ?_) #[true, true, true, true, true, true, true, true, true, true, true, true, true, true, true, true, true, true, true, true, false, false, true, false, false, false, false, false, false] rfl rfl (any_of HT_.out (by kernel_rfl)) (fun _ _ _ h => h) (Or.inl ⟨by rfl, ?_⟩) ?_ ?_
            rotate_left
            · intro w'
              go_simp
              with_reducible rfl
            rotate_left
            · simp only [Act.put, List.setIfInBounds_toArray, List.set_cons_zero, List.set_cons_succ]
              rfl
            refine take_ (i := 20) (N := some 91) (v := ?_) (a' := ?_) #[true, true, true, true, true, true, true, true, true, true, true, true, true, true, true, true, true, true, true, true, true, false, true, false, false, false, false, false, false] rfl rfl (take_ofW HT_.out HW_.out (by kernel_rfl)) (fun _ _ _ h => h) (Or.inl ⟨by rfl, ?_⟩) hHeld ?_ ?_
            rotate_left
            · rintro w' ⟨s0, s1, s2⟩
              go_simp
              with_reducible rfl
            rotate_left
            · simp only [Act.put, List.setIfInBounds_toArray, List.set_cons_zero, List.set_cons_succ]
              rfl
            refine pure_ (i := 21) (N := some 92) (v := ?_) (a' := ?_) #[true, true, true, true, true, true, true, true, true, true, true, true, true, true, true, true, true, true, true, true, true, true, true, false, false, false, false, false, false] rfl rfl (any_of HT_.out (by kernel_rfl)) (fun _ _ _ h => h) (Or.inl ⟨by rfl, ?_⟩) ?_ ?_
            rotate_left
            · intro w'
              go_simp
              with_reducible rfl
            rotate_left
            · simp only [Act.put, List.setIfInBounds_toArray, List.set_cons_zero, List.set_cons_succ]
              rfl
            refine pure_ (i := 23) (N := some 94) (v := ?_) (a' := ?_) #[true, true, true, true, true, true, true, true, true, true, true, true, true, true, true, true, true, true, true, true, true, true, true, true, false, false, false, false, false] rfl rfl (any_of HT_.out (by kernel_rfl)) (fun _ _ _ h => h) (Or.inl ⟨by rfl, ?_⟩) ?_ ?_
            rotate_left
            · intro w'
              go_simp
              with_reducible rfl
            rotate_left
            · simp only [Act.put, List.setIfInBounds_toArray, List.set_cons_zero, List.set_cons_succ]
              rfl
            refine one_ (i := 24) (N := some 95) #[true, true, true, true, true, true, true, true, true, true, true, true, true, true, true, true, true, true, true, true, true, true, true, true, true, false, false, false, false] rfl rfl (one_of HT_.out (by kernel_rfl)) (by decide) (fun K hK => ?_)
            refine event_step (w1 := w4.alloc (Obj.cells #[Value.int .i64 (wa + wb), Value.int .i64 (T.length : Int), Value.int .i64 (-1)] 58)) (v := .slice (some ⟨w4.heap.size, 0, none⟩) 1 1) (by rfl) (by go_simp) ?_
            refine hK.out _ _ ⟨cell_later ((Below.refl _ _).alloc (Nat.le_refl _) _) hHeld.1, cell_later ((Below.refl _ _).alloc (Nat.le_refl _) _) hHeld.2.1, cell_later ((Below.refl _ _).alloc (Nat.le_refl _) _) hHeld.2.2⟩ (fun hHeld => ?_)
            clear hK K
            refine norm_ (a' := ?_) ?_ ?_
            rotate_left
            · show Act.put _ (some 95) _ = _
              simp only [Act.put, List.setIfInBounds_toArray, List.set_cons_zero, List.set_cons_succ]
              rfl
            refine last_ (i := 25) (N := some 96) #[true, true, true, true, true, true, true, true, true, true, true, true, true, true, true, true, true, true, true, true, true, true, true, true, true, true, false, false, false] rfl rfl (one_of HT_.out (by kernel_rfl)) (by decide) (fun K hK => ?_)
            refine step_append_cells (w0 := w) w.heap.size (by rfl) (.tmp 75) (.tmp 95) 53 58 (.agg #[.int .i64 0, .int .i64 0, .int .i64 0]) 3 24 (by rfl) Try.underlying53 info_thing rfl (by decide) (by decide) (.slice (some ⟨g', 0, none⟩) T.length cap') T.length (tcells T) [.int .i64 (wa + wb), .int .i64 (T.length : Int), .int .i64 (-1)] (by rfl) (by rfl) rfl ?a1 HOS.out HBD.out HBS.out ?a2 ?_
            case a1 => intro u hu; simp at hu; rcases hu with rfl | rfl | rfl <;> rfl
            case a2 => omega
            intro v1 w1 hown hb1 hg1 hat
            obtain ⟨g1, cap1, rfl⟩ := own_form hown (by omega)
            have HAP := Lib.hid (HPP.out.appended ⟨wa + wb, (T.length : Int), -1⟩ hown hg1 hat)
            have HG1 := Lib.hid (And.intro hb1 (And.intro hg1 hat))
            obtain ⟨q3, q4⟩ := Row.cell_of HAP.out.1 (hcells_0 _ L2 m)
            clear hown hb1 hg1 hat
            refine hK.out _ _ ?_
            clear hK K
            refine norm_ (a' := ?_) ?_ ?_
            rotate_left
            · show Act.put _ (some 96) _ = _
              simp only [Act.put, List.setIfInBounds_toArray, List.set_cons_zero, List.set_cons_succ]
              rfl
            refine pure_ (i := 26) (N := some 97) (v := ?_) (a' := ?_) #[true, true, true, true, true, true, true, true, true, true, true, true, true, true, true, true, true, true, true, true, true, true, true, true, true, true, true, false, false] rfl rfl (any_of HT_.out (by kernel_rfl)) (fun _ _ _ h => h) (Or.inl ⟨by rfl, ?_⟩) ?_ ?_
            rotate_left
            · intro w'
              go_simp
              with_reducible rfl
            rotate_left
            · simp only [Act.put, List.setIfInBounds_toArray, List.set_cons_zero, List.set_cons_succ]
              rfl
            refine pure_ (i := 27) (N := some 98) (v := ?_) (a' := ?_) #[true, true, true, true, true, true, true, true, true, true, true, true, true, true, true, true, true, true, true, true, true, true, true, true, true, true, true, true, false] rfl rfl (any_of HT_.out (by kernel_rfl)) (fun _ _ _ h => h) (Or.inl ⟨by rfl, ?_⟩) ?_ ?_
            rotate_left
            · intro w'
              go_simp
              with_reducible rfl
            rotate_left
            · simp only [Act.put, List.setIfInBounds_toArray, List.set_cons_zero, List.set_cons_succ]
              rfl
            refine last_ (i := 28) (N := none) #[true, true, true, true, true, true, true, true, true, true, true, true, true, true, true, true, true, true, true, true, true, true, true, true, true, true, true, true, true] rfl rfl (one_of HT_.out (by kernel_rfl)) (by decide) (fun K hK => ?_)
            refine skip_ (w1 := ?_) (by rfl) rfl ?_ ?_
            rotate_left
            · go_simp
              rfl
            refine hK.out _ _ ?_
            clear hK K
            refine done_ (done_of HT_.out (by kernel_rfl)) ?_
            obtain ⟨hg1, hg2, hg3⟩ := HG1.out
            have hO5 : (w1.setCell ⟨w.heap.size, 0, none⟩ (.slice (some ⟨g1, 0, none⟩) (T.length + 1) cap1)).heap[O]? = some (.cells (Row.row .i64 256 fun _ => 0) 3 (0, 0)) := by
              refine Row.set_far _ _ _ _ (by show O ≠ w.heap.size; omega) ?_
              exact (hg2.block O (Row.blk_lt HKP.out) (Ne.symm HVO.out)).trans HKP.out
            have hvO5 : g1 ≠ O := by
              rcases hg3 with e | ⟨bb, e, hbb⟩
              · intro e2
                rw [e2] at e
                exact HVO.out e.symm
              · have e : g1 = bb := by simpa [Value.ownBlock] using e
                have := Row.blk_lt HKP.out
                omega
            have hb5 := hg1.setCell (p := ⟨w.heap.size, 0, none⟩) (Nat.le_refl _) (.slice (some ⟨g1, 0, none⟩) (T.length + 1) cap1)
            have hp5 := HAP.out.2
            generalize (w1.setCell ⟨w.heap.size, 0, none⟩ (.slice (some ⟨g1, 0, none⟩) (T.length + 1) cap1)) = w5 at hO5 hb5 hp5 ⊢
            clear hg1 hg2 hg3 HG1 HAP HKP q3 q4 qa qb q1 hHeld HPP HBD HOS HBS HVO
            have ta5 : (T ++ [(⟨wa + wb, (T.length : Int), -1⟩ : Th)])[a]? = some ⟨wa, (a : Int), -1⟩ := by rw [List.getElem?_append_left hal]; exact HTA.out
            have hr1 := hp5.rise ta5 (T.length : Int)
            have tb5 : ((T ++ [(⟨wa + wb, (T.length : Int), -1⟩ : Th)]).set a { (⟨wa, (a : Int), -1⟩ : Th) with up := (T.length : Int) })[b]? = some ⟨wb, (b : Int), -1⟩ := by
              rw [List.getElem?_set_ne hnab, List.getElem?_append_left hbl]; exact HTB.out
            have hr2 := hr1.rise tb5 (T.length : Int)
            have hTm : (((T ++ [(⟨wa + wb, (T.length : Int), -1⟩ : Th)]).set a { (⟨wa, (a : Int), -1⟩ : Th) with up := (T.length : Int) }).set b { (⟨wb, (b : Int), -1⟩ : Th) with up := (T.length : Int) }) = mergeT T a b (wa + wb) := by
              unfold mergeT
              rw [getD_is HTA.out, getD_is HTB.out]
            rw [hTm] at hr2
            obtain ⟨gg, cc, ev, hggH, _, hca⟩ := hp5.thing ta5
            obtain ⟨gg2, cc2, ev2, _, _, hcb⟩ := hr1.thing tb5
            have tb6 : (T ++ [(⟨wa + wb, (T.length : Int), -1⟩ : Th)])[b]? = some ⟨wb, (b : Int), -1⟩ := by rw [List.getElem?_append_left hbl]; exact HTB.out
            obtain ⟨gg3, cc3, ev3, _, _, hcb6⟩ := hp5.thing tb6
            have e1 := slice_blk ev.symm
            have e2 := slice_blk ev2.symm
            have e3 := slice_blk ev3.symm
            subst e1
            subst e2
            subst e3
            have ka := hca 2 _ rfl
            have kb := hcb6 2 _ rfl
            have kc := (hcb 2 _ rfl).1
            have q1 := hp5.cell0.1
            obtain ⟨ka, ka'⟩ := ka
            obtain ⟨kb, kb'⟩ := kb
            have hge : w.heap.size ≤ gg3 := by
              rcases hp5.o.2 with ⟨hv, _⟩ | ⟨g', _, _, hv, hg, _⟩
              · cases hv
              · have e := slice_blk hv
                omega
            have HR2 := Lib.hid hr2.drew
            have HB6 := Lib.hid (((hb5.setCell (p := ⟨gg3, a * 3 + 2, none⟩) hge (.int .i64 (T.length : Int))).setCell (p := ⟨gg3, b * 3 + 2, none⟩) hge (.int .i64 (T.length : Int))).drew)
            have HO6 : Hid (((w5.setCell ⟨gg3, a * 3 + 2, none⟩ (.int .i64 (T.length : Int))).setCell ⟨gg3, b * 3 + 2, none⟩ (.int .i64 (T.length : Int))).drew.heap[O]? = some (.cells (Row.row .i64 256 fun _ => 0) 3 (0, 0))) :=
              Lib.hid (Row.set_far _ _ _ _ (by show O ≠ gg3; omega) (Row.set_far _ _ _ _ (by show O ≠ gg3; omega) hO5))
            clear hr1 hr2 hp5 hca hcb hcb6 ev ev2 ev3 ta5 tb5 tb6 hTm hO5 hb5
            have hy1 : (a : Int) < (T.length : Int) + 1 := by omega
            have hy2 : (b : Int) < (T.length : Int) + 1 := by omega
            have hy3 : a < T.length + 1 := by omega
            have hy4 : b < T.length + 1 := by omega
            go_wp2
            go_big_region_o
            clear ka ka' kb kb' kc q1
            generalize ((w5.setCell ⟨gg3, a * 3 + 2, none⟩ (.int .i64 (T.length : Int))).setCell ⟨gg3, b * 3 + 2, none⟩ (.int .i64 (T.length : Int))).drew = w6 at HR2 HB6 HO6 ⊢
            obtain ⟨hmg, hgo2, hids3, hlen2, hd3⟩ := HF.out
            have hml := mergeT_length T a b (wa + wb)
            have hpush := push_any HB HR2.out (ord _) hd3 (fun y hy => by rw [hml]; have := hlt2 y hy; omega) T.length (by rw [hml]; omega) (by omega)
            have HML := Lib.hid hml
            clear hmg hgo2 hids3 hlen2 hd3 hml HR2
            go_wp2_with fail
            refine hpush.mono ?_
            rintro e w7 ⟨rfl, L3, hp7, hd7, hk7⟩
            have HMID2 : Hid (Mid w counts O (m + 1) w7) := by
              obtain ⟨hmg, hgo2, hids3, hlen2, hd3⟩ := HF.out
              refine Lib.hid ⟨HB6.out.trans (hk7.to (Nat.le_refl _) HB6.out.size), hO, (hk7.far O (Row.blk_lt HO6.out) (by omega)).trans HO6.out, _, _, L3, its2, out2, f', S, hp7, ?_, hd7.perm hids3, hmg, hS, hlen2, ?_, ?_⟩
              · simpa [Value.ownBlock] using hvO5
              · rw [HML.out]; exact hgo2
              · rw [HML.out]; omega
            clear hpush hp7 hd7 hk7
            go_wp2
            go_roundg (m + 1)
            case measure => omega
            case rel => exact ⟨m + 1, by omega, Nat.le_refl _, HMID2⟩
          · have hzn : ¬ (1 : Int) < (n : Int) := by omega
            obtain ⟨hbw, hO, hout, v, T, L, its, outL, f, S, hp, hvO, hd, hsim, hS, hf, hgo, hTn⟩ := HMID.out
            have hidl := hd.length
            rw [List.length_map] at hidl
            have hend : lens counts = outL := by
              rw [← hgo]
              cases f with
              | zero => rfl
              | succ f =>
                show (if its.length ≤ 1 then outL else _) = _
                rw [if_pos (by omega)]
            have hbig := hsim.big
            obtain ⟨t0, ht0⟩ : ∃ t, T[0]? = some t := ⟨_, List.getElem?_eq_getElem (show 0 < T.length by omega)⟩
            obtain ⟨g, cap, rfl, hgH, hgb, _⟩ := hp.thing ht0
            have hgO : g ≠ O := by simpa [Value.ownBlock] using hvO
            obtain ⟨q1, q2⟩ := hp.celln
            have HE := Lib.hid hend; have HSIM := Lib.hid hsim; have HP := Lib.hid hp; have HB0 := Lib.hid hbw; have HO0 := Lib.hid hout
            clear hbw hout hvO hsim hgo hd hp hidl hend ht0 HMID hf hS
            go_wp2
            clear q1 q2
            have R0 : Hid (Tail w counts O (.slice (some ⟨g, 0, none⟩) T.length cap) T L n outL 0 wr) := Lib.hid ⟨HB0.out, by omega, by
              have e : Row.row .i64 256 (fun _ => 0) = Row.row .i64 256 (fun j => if j < 0 then outL.getD j 0 else 0) := Row.row_ext _ _ _ _ (Row.row_size _ _ _) fun j hj => by rw [Row.row_get _ _ _ _ hj, if_neg (Nat.not_lt_zero _)]
              exact HO0.out.trans (by rw [e]), HP.out⟩
            go_loopg [11, 12, 120] 256 (fun gk s11 s12 s120 wr => ∃ k : Nat, s120 = .int .i64 k ∧ k ≤ 256 ∧ 256 - k ≤ gk ∧ Hid (Tail w counts O (.slice (some ⟨g, 0, none⟩) T.length cap) T L n outL k wr))
            case atStart => exact ⟨0, rfl, Nat.zero_le _, by omega, R0⟩
            case round =>
              clear R0 HB0 HO0 HP
              obtain ⟨k, rfl, hk, hgk, HT⟩ := hrel
              by_cases hlk : k < 256
              · have hlz : (k : Int) < 256 := by omega
                obtain ⟨d, r, hod, hch, _⟩ := HSIM.out.ch k hlk
                have hT := HT.out
                have hkT : k < T.length := hch.lt
                obtain ⟨tk, htk⟩ : ∃ t, T[k]? = some t := ⟨_, List.getElem?_eq_getElem hkT⟩
                obtain ⟨g2, cap2, ev, _, _, hcc⟩ := hT.hp.thing htk
                obtain rfl := slice_blk ev
                have k0 := hT.hp.cell0.1
                have k1 := (hcc 2 _ rfl).1
                have hkz : (k : Int) < (T.length : Int) := by omega
                have HT1 : Hid (Count w O (.slice (some ⟨g, 0, none⟩) T.length cap) T L n outL k 0 wr) := Lib.hid ⟨hT.below, hT.hO, by
                  have e : Row.row .i64 256 (fun j => if j < k then outL.getD j 0 else 0) = Row.row .i64 256 (fun j => if j < k then outL.getD j 0 else if j = k then ((0 : Nat) : Int) else 0) := Row.row_ext _ _ _ _ (Row.row_size _ _ _) fun j hj => by
                    rw [Row.row_get _ _ _ _ hj]
                    split
                    · rfl
                    · split <;> rfl
                  exact hT.out.trans (by rw [e]), hT.hp⟩
                have HDL := Lib.hid (show d ≤ 512 by have := hch.le HSIM.out.asc; omega)
                have HOD := Lib.hid hod; have HCH := Lib.hid hch; have HTK := Lib.hid htk
                clear hT hch htk hcc ev hod HT
                go_wp2
                clear k0 k1
                go_loopg [12] (d + 1) (fun gk s12 wr => ∃ (i y d' : Nat) (t : Th), s12 = .int .i64 t.up ∧ d' < gk ∧ Hid (T[y]? = some t) ∧ Hid (Ch T y d' r) ∧ Hid (i + d' = d) ∧ Hid (Count w O (.slice (some ⟨g, 0, none⟩) T.length cap) T L n outL k i wr))
                case atStart => exact ⟨0, k, d, tk, rfl, by omega, HTK, HCH, Lib.hid (Nat.zero_add d), HT1⟩
                case round =>
                  clear HT1 HTK HCH
                  obtain ⟨i, y, d', t, rfl, hdg, HTY, HCH, HID, HC⟩ := hrel
                  have hC := HC.out
                  have hrow : ∀ u, Row.row .i64 256 (fun j => if j < k then outL.getD j 0 else if j = k then (u : Int) else 0) = Row.row .i64 256 (fun j => if j < k then outL.getD j 0 else if j = k then (u : Int) else 0) := fun _ => rfl
                  obtain ⟨z1, z2⟩ := Row.row_cells hC.out k hlk
                  rw [if_neg (Nat.lt_irrefl _), if_pos rfl] at z1
                  have hch := HCH.out
                  have hty := HTY.out
                  have hid := HID.out
                  cases hch with
                  | stop h1 h2 =>
                    rw [hty] at h1
                    obtain rfl := Option.some.inj h1
                    have hup : ¬ (0 : Int) ≤ t.up := by omega
                    have HT2 : Hid (Tail w counts O (.slice (some ⟨g, 0, none⟩) T.length cap) T L n outL (k + 1) wr) := Lib.hid ⟨hC.below, hC.hO, by
                      have e : Row.row .i64 256 (fun j => if j < k then outL.getD j 0 else if j = k then (i : Int) else 0) = Row.row .i64 256 (fun j => if j < k + 1 then outL.getD j 0 else 0) := Row.row_ext _ _ _ _ (Row.row_size _ _ _) fun j hj => by
                        rw [Row.row_get _ _ _ _ hj]
                        by_cases c1 : j < k
                        · rw [if_pos c1, if_pos (by omega)]
                        · by_cases c2 : j = k
                          · subst c2
                            rw [if_neg c1, if_pos rfl, if_pos (by omega), HOD.out, show i = d by omega]
                          · rw [if_neg c1, if_neg c2, if_neg (by omega)]
                      exact hC.out.trans (by rw [e]), hC.hp⟩
                    clear hC hrow z1 z2 hty HTY HCH HID HC h1 hid h2
                    go_wp2
                    go_roundg (256 - (k + 1))
                    case measure => omega
                    case rel => exact ⟨k + 1, by go_num, by omega, by omega, HT2⟩
                  | @step _ x d2 _ t' h1 h2 h3 =>
                    rw [hty] at h1
                    obtain rfl := Option.some.inj h1
                    rw [h2]
                    have hxz : (0 : Int) ≤ (x : Int) := by omega
                    have hxT : x < T.length := h3.lt
                    have hxT2 : (x : Int) < (T.length : Int) := by omega
                    obtain ⟨tx, htx⟩ : ∃ t, T[x]? = some t := ⟨_, List.getElem?_eq_getElem hxT⟩
                    obtain ⟨g2, cap2, ev, _, _, hcc⟩ := hC.hp.thing htx
                    obtain rfl := slice_blk ev
                    have k0 := hC.hp.cell0.1
                    have k1 := (hcc 2 _ rfl).1
                    have k0' : (wr.setCell ⟨O, k, none⟩ (.int .i64 ((i : Int) + 1))).cell? ⟨w.heap.size, 0, none⟩ = some (.slice (some ⟨g, 0, none⟩) T.length cap) := by
                      rw [World.cell?_setCell_far _ _ _ _ (by show O ≠ w.heap.size; omega)]; exact k0
                    have k1' : (wr.setCell ⟨O, k, none⟩ (.int .i64 ((i : Int) + 1))).cell? ⟨g, x * 3 + 2, none⟩ = some (.int .i64 tx.up) := by
                      rw [World.cell?_setCell_far _ _ _ _ (by show O ≠ g; exact Ne.symm hgO)]; exact k1
                    have hi256 : i < 1000 := by have := h3.le HSIM.out.asc; have := HDL.out; omega
                    have HC2 : Hid (Count w O (.slice (some ⟨g, 0, none⟩) T.length cap) T L n outL k (i + 1) (wr.setCell ⟨O, k, none⟩ (.int .i64 ((i : Int) + 1)))) := by
                      refine Lib.hid ⟨hC.below.setCell (by show w.heap.size ≤ O; omega) _, hC.hO, ?_, hC.hp.hb, Row.set_far _ _ _ _ (by show w.heap.size ≠ O; omega) hC.hp.h, own_setCell hC.hp.o (by show some O ≠ some g; intro e; injection e with e; exact hgO e.symm) _, hC.hp.ne⟩
                      rw [Row.blk_set hC.out]
                      rw [Row.row_set .i64 256 _ (fun j => if j < k then outL.getD j 0 else if j = k then ((i + 1 : Nat) : Int) else 0) k _ (by show (if k < k then _ else if k = k then ((i + 1 : Nat) : Int) else 0) = _; rw [if_neg (Nat.lt_irrefl _), if_pos rfl]; omega) (fun j hj hne => by
                        show (if j < k then _ else if j = k then _ else _) = _
                        rw [if_neg hne, if_neg hne])]
                    have HTX := Lib.hid htx; have HC3 := Lib.hid h3
                    clear hC hrow hty HTY HCH HC htx hcc ev h3 h2 k0 k1
                    go_wp2
                    go_roundg (d2 + 1)
                    case measure => omega
                    case rel => exact ⟨i + 1, x, d2, tx, rfl, by omega, HTX, HC3, Lib.hid (by omega), HC2⟩
              · obtain rfl : k = 256 := by omega
                have hlz : ¬ (256 : Int) < 256 := by omega
                go_wp2
                go_ret2
                refine ⟨O, rfl, by omega, ?_, HT.out.below⟩
                have e : Row.row .i64 256 (fun j => if j < 256 then outL.getD j 0 else 0) = Row.row .i64 256 (fun j => outL.getD j 0) := Row.row_ext _ _ _ _ (Row.row_size _ _ _) fun j hj => by rw [Row.row_get _ _ _ _ hj, if_pos hj]
                rw [HE.out]
                exact HT.out.out.trans (by rw [e])
end Go.Proofs.Ytceompmfmceicaa.Heap
