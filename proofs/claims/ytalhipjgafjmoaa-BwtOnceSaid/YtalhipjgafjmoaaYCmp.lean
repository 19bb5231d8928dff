/- The comparator of suffix.Array, by its contract: names, then names so many places behind. -/
import Derived.Test.YtalhipjgafjmoaaYBehind
import Derived.Test.YtalhipjgafjmoaaYRegionInv
import Derived.WalkKit
namespace Go.Proofs.Ytalhipjgafjmoaa.Suf
open Go.RowKit
set_option linter.unusedVariables false
set_option linter.unusedSimpArgs false

/-- What cmp.Compare answers. -/
def cmpI (x y : Int) : Int := if x < y then -1 else if y < x then 1 else 0

theorem isNaN_any (x : Int) (w : World) : Calls Try.prog 34 #[.int .i64 x] w fun e w' => e = .returned (.bool false) ∧ w' = w := by
  go_enter Try.func34, Try.ntmps34
  go_wp2
  go_ret
  exact ⟨rfl, rfl⟩

theorem compare_any (x y : Int) (w : World) : Calls Try.prog 31 #[.int .i64 x, .int .i64 y] w fun e w' => e = .returned (.int .i64 (cmpI x y)) ∧ w' = w := by
  go_enter Try.func31, Try.ntmps31
  go_wp2_with (go_at_call 34; refine (isNaN_any _ _).mono ?_; rintro e w' ⟨rfl, hw⟩; rw [hw])
  all_goals (go_ret; refine ⟨?_, rfl⟩; unfold cmpI; (repeat' split) <;> first | rfl | (exfalso; omega))

def orI (x y : Int) : Int := if x = 0 then y else x

set_option maxHeartbeats 1000000 in
theorem or_first (x y : Int) (g : Nat) (w : World) (hx : x ≠ 0) (h0 : w.cell? ⟨g, 0, none⟩ = some (.int .i64 x)) : Calls Try.prog 30 #[.slice (some ⟨g, 0, none⟩) 2 2] w fun e w' => e = .returned (.int .i64 x) ∧ w' = w := by
  have hx1 : (x == 0) = false := by simpa using hx
  have hx2 : (x != 0) = true := by simpa using hx
  go_enter Try.func30, Try.ntmps30
  go_wp2
  refine wp_loop_rounds 1 ?_
  rw [rounds_succ]
  go_wp2
  go_ret
  exact ⟨rfl, rfl⟩

set_option maxHeartbeats 1000000 in
theorem or_second (y : Int) (g : Nat) (w : World) (h0 : w.cell? ⟨g, 0, none⟩ = some (.int .i64 0)) (h1 : w.cell? ⟨g, 1, none⟩ = some (.int .i64 y)) : Calls Try.prog 30 #[.slice (some ⟨g, 0, none⟩) 2 2] w fun e w' => e = .returned (.int .i64 y) ∧ w' = w := by
  by_cases hy : y = 0
  · subst hy
    go_enter Try.func30, Try.ntmps30
    go_wp2
    refine wp_loop_rounds 3 ?_
    rw [rounds_succ]
    go_wp2
    rw [rounds_succ]
    go_wp2
    rw [rounds_succ]
    go_wp2
    go_ret
    exact ⟨rfl, rfl⟩
  · have hx1 : (y == 0) = false := by simpa using hy
    have hx2 : (y != 0) = true := by simpa using hy
    go_enter Try.func30, Try.ntmps30
    go_wp2
    refine wp_loop_rounds 2 ?_
    rw [rounds_succ]
    go_wp2
    rw [rounds_succ]
    go_wp2
    go_ret
    exact ⟨rfl, rfl⟩
theorem or_any (x y : Int) (g : Nat) (w : World) (h0 : w.cell? ⟨g, 0, none⟩ = some (.int .i64 x)) (h1 : w.cell? ⟨g, 1, none⟩ = some (.int .i64 y)) : Calls Try.prog 30 #[.slice (some ⟨g, 0, none⟩) 2 2] w fun e w' => e = .returned (.int .i64 (orI x y)) ∧ w' = w := by
  unfold orI
  by_cases hx : x = 0
  · subst hx; rw [if_pos rfl]; exact or_second y g w h0 h1
  · rw [if_neg hx]; exact or_first x y g w hx h0

/-- What the closures find. -/
structure Env (n : Nat) (nm : List Int) (Bn Bs Bb Bt Bk br s : Nat) (W : World) : Prop where
  h1 : W.cell? ⟨Bn, 0, none⟩ = some (.int .i64 (n : Int))
  h2 : W.cell? ⟨Bs, 0, none⟩ = some (.slice (some ⟨br, 0, none⟩) (n + 1) (n + 1))
  h3 : ∀ k, k ≤ n → W.cell? ⟨br, k, none⟩ = some (.int .i64 (nm.getD k 0))
  h4 : W.cell? ⟨Bb, 0, none⟩ = some (.func (.func 26) #[] #[.pointer (some ⟨Bn, 0, none⟩), .pointer (some ⟨Bs, 0, none⟩)])
  h5 : W.cell? ⟨Bt, 0, none⟩ = some (.int .i64 (s : Int))
  hk : W.cell? ⟨Bk, 0, none⟩ = some (.func (.func 27) #[] #[.pointer (some ⟨Bs, 0, none⟩), .pointer (some ⟨Bb, 0, none⟩), .pointer (some ⟨Bt, 0, none⟩)])
theorem Env.bd {n : Nat} {nm : List Int} {Bn Bs Bb Bt Bk br s : Nat} {W w : World} (h : Env n nm Bn Bs Bb Bt Bk br s W) (hb : Bd W w) : Env n nm Bn Bs Bb Bt Bk br s w :=
  ⟨hb.cell h.h1, hb.cell h.h2, fun k hk => hb.cell (h.h3 k hk), hb.cell h.h4, hb.cell h.h5, hb.cell h.hk⟩

/-- A pair of numbers in memory. -/
def PairAt (B : Nat) (w : World) (v : Value) (cs : Array Value) : Prop := ∃ g, v = .pointer (some ⟨g, 0, none⟩) ∧ w.heap[g]? = some (.cells cs 52 (0, 0)) ∧ B ≤ g
theorem PairAt.bd {B : Nat} {w w' : World} {v : Value} {cs : Array Value} (h : PairAt B w v cs) (hb : Bd w w') : PairAt B w' v cs := by
  obtain ⟨g, rfl, hg, hB⟩ := h
  exact ⟨g, rfl, (hb.below.block g (Array.getElem?_eq_some_iff.1 hg).1).trans hg, hB⟩

theorem pair_cells {w : World} {g t : Nat} {a b : Value} (h : w.heap[g]? = some (.cells #[a, b] t (0, 0))) : w.cell? ⟨g, 0, none⟩ = some a ∧ w.cell? ⟨g, 1, none⟩ = some b ∧ w.frozen? ⟨g, 0, none⟩ = false ∧ w.frozen? ⟨g, 1, none⟩ = false := by
  simp [World.cell?, World.frozen?, h]
theorem pair_set {w : World} {g t : Nat} {a b c d : Value} (h : w.heap[g]? = some (.cells #[a, b] t (0, 0))) :
    ((w.setCell ⟨g, 0, none⟩ c).setCell ⟨g, 1, none⟩ d).heap[g]? = some (.cells #[c, d] t (0, 0)) ∧ ∀ k, k ≠ g → ((w.setCell ⟨g, 0, none⟩ c).setCell ⟨g, 1, none⟩ d).heap[k]? = w.heap[k]? := by
  constructor
  · simp [World.setCell, Array.getElem?_modify, h]
  · intro k hk
    rw [Below.heap_setCell _ ⟨g, 1, none⟩ d k hk, Below.heap_setCell _ ⟨g, 0, none⟩ c k hk]
theorem Bd.setCell {W w : World} {p : Addr} (h : Bd W w) (hp : W.heap.size ≤ p.block) (v : Value) : Bd W (w.setCell p v) := ⟨h.below.setCell hp v, h.drawn⟩

def kfn (Bs Bb Bt : Nat) : Value := .func (.func 27) #[] #[.pointer (some ⟨Bs, 0, none⟩), .pointer (some ⟨Bb, 0, none⟩), .pointer (some ⟨Bt, 0, none⟩)]

def RI (W : World) (F x y pk a0 a1 b0 b1 : Value) (L : Nat → Bool) (a : Act) (w : World) : Prop :=
  ∃ v6 v7 v8 v9 v10 v11 v12 v13 : Value, a = { tmps := #[x, y, pk, undef, undef, .int .i64 0, v6, v7, v8, v9, v10, v11, v12, v13, undef, undef, undef, undef, undef, undef, undef, undef, undef, undef, undef, undef], defers := [] } ∧
    (L 0 = true → v8 = F) ∧ (L 1 = true → v9 = x) ∧ (L 2 = true → v10 = .agg #[a0, a1]) ∧ (L 3 = true → v11 = F) ∧ (L 4 = true → v12 = y) ∧ (L 5 = true → v13 = .agg #[b0, b1]) ∧ Bd W w ∧
    (L 6 = true → PairAt W.heap.size w v6 (if L 8 = true then #[a0, a1] else #[.int .i64 0, .int .i64 0])) ∧ (L 7 = true → PairAt W.heap.size w v7 (if L 9 = true then #[b0, b1] else #[.int .i64 0, .int .i64 0])) ∧ (L 6 = true → L 7 = true → v6 ≠ v7) ∧ (L 8 = true → L 6 = true) ∧ (L 9 = true → L 7 = true)

set_option maxHeartbeats 2000000 in
theorem cmp_any (n : Nat) (nm : List Int) (Bn Bs Bb Bt Bk br s x y : Nat) (W : World) (hn : n ≤ 8192) (hs : s ≤ 16384) (hx : x ≤ n) (hy : y ≤ n) (h : Env n nm Bn Bs Bb Bt Bk br s W) :
    Calls Try.prog 29 #[.int .i64 (x : Int), .int .i64 (y : Int), .pointer (some ⟨Bk, 0, none⟩)] W fun e w' =>
      e = .returned (.int .i64 (orI (cmpI (nm.getD x 0) (nm.getD y 0)) (cmpI (beh nm n ((x + s : Nat) : Int)) (beh nm n ((y + s : Nat) : Int))))) ∧ Bd W w' := by
  have hkey : ∀ (k : Nat) (w : World), k ≤ n → Bd W w → Calls Try.prog 27 #[.int .i64 (k : Int), .pointer (some ⟨Bs, 0, none⟩), .pointer (some ⟨Bb, 0, none⟩), .pointer (some ⟨Bt, 0, none⟩)] w fun e w' => e = .returned (.agg #[.int .i64 (nm.getD k 0), .int .i64 (beh nm n ((k + s : Nat) : Int))]) ∧ Bd w w' := by
    intro k w hk hb
    have h' := h.bd hb
    exact key_any n nm Bs Bb Bt Bn br k s w hn hs hk h'.h1 h'.h2 h'.h3 h'.h4 h'.h5
  have hF : ∀ w, Bd W w → w.cell? ⟨Bk, 0, none⟩ = some (kfn Bs Bb Bt) := fun w hb => hb.cell h.hk
  have HX := hkey x; have HY := hkey y
  clear hkey h
  generalize ha0 : nm.getD x 0 = a0 at HX ⊢
  generalize ha1 : beh nm n ((x + s : Nat) : Int) = a1 at HX ⊢
  generalize hb0 : nm.getD y 0 = b0 at HY ⊢
  generalize hb1 : beh nm n ((y + s : Nat) : Int) = b1 at HY ⊢
  clear ha0 ha1 hb0 hb1
  go_enter Try.func29, Try.ntmps29
  go_wp2
  refine wp_region_inv (by kernel_rfl) (by kernel_rfl) (RI W (kfn Bs Bb Bt) (.int .i64 (x : Int)) (.int .i64 (y : Int)) (.pointer (some ⟨Bk, 0, none⟩)) (.int .i64 a0) (.int .i64 a1) (.int .i64 b0) (.int .i64 b1)) ?h0 ?hstep ?hend
  case h0 => exact ⟨_, _, _, _, _, _, _, _, rfl, nofun, nofun, nofun, nofun, nofun, nofun, Bd.drew W, nofun, nofun, nofun, nofun, nofun⟩
  case hstep =>
    intro L a w i o hI ho hL hall
    obtain ⟨v6, v7, v8, v9, v10, v11, v12, v13, rfl, p0, p1, p2, p3, p4, p5, hb, p6, p7, p8, p9, p10⟩ := hI
    have hi : i < 10 := (Array.getElem?_eq_some_iff.1 ho).1
    rcases (by omega : i = 0 ∨ i = 1 ∨ i = 2 ∨ i = 3 ∨ i = 4 ∨ i = 5 ∨ i = 6 ∨ i = 7 ∨ i = 8 ∨ i = 9) with rfl | rfl | rfl | rfl | rfl | rfl | rfl | rfl | rfl | rfl
    · simp only [List.getElem?_toArray, List.getElem?_cons_zero, List.getElem?_cons_succ, Option.some.injEq] at ho
      subst ho
      simp only [Region.wanted, if_true]
      unfold Oper.wp
      have hc := hF w hb
      unfold kfn at hc
      go_simp
      exact ⟨_, _, _, _, _, _, _, _, rfl, fun _ => rfl, p1, p2, p3, p4, p5, hb, p6, p7, p8, p9, p10⟩
    · simp only [List.getElem?_toArray, List.getElem?_cons_zero, List.getElem?_cons_succ, Option.some.injEq] at ho
      subst ho
      simp only [Region.wanted, if_true]
      unfold Oper.wp
      go_simp
      exact ⟨_, _, _, _, _, _, _, _, rfl, p0, fun _ => rfl, p2, p3, p4, p5, hb, p6, p7, p8, p9, p10⟩
    · simp only [List.getElem?_toArray, List.getElem?_cons_zero, List.getElem?_cons_succ, Option.some.injEq] at ho
      subst ho
      simp only [Region.wanted, if_true]
      unfold Oper.wp
      have e0 := p0 (hall ⟨0, .data⟩ (by simp) rfl)
      have e1 := p1 (hall ⟨1, .data⟩ (by simp) rfl)
      subst e0; subst e1
      unfold kfn
      go_simp
      refine (HX w hx hb).mono ?_
      rintro e w' ⟨rfl, hb'⟩
      exact ⟨_, _, _, _, _, _, _, _, rfl, fun _ => rfl, fun _ => rfl, fun _ => rfl, p3, p4, p5, hb.trans hb', fun h => (p6 h).bd hb', fun h => (p7 h).bd hb', p8, p9, p10⟩
    · simp only [List.getElem?_toArray, List.getElem?_cons_zero, List.getElem?_cons_succ, Option.some.injEq] at ho
      subst ho
      simp only [Region.wanted, if_true]
      unfold Oper.wp
      have hc := hF w hb
      unfold kfn at hc
      go_simp
      exact ⟨_, _, _, _, _, _, _, _, rfl, p0, p1, p2, fun _ => rfl, p4, p5, hb, p6, p7, p8, p9, p10⟩
    · simp only [List.getElem?_toArray, List.getElem?_cons_zero, List.getElem?_cons_succ, Option.some.injEq] at ho
      subst ho
      simp only [Region.wanted, if_true]
      unfold Oper.wp
      go_simp
      exact ⟨_, _, _, _, _, _, _, _, rfl, p0, p1, p2, p3, fun _ => rfl, p5, hb, p6, p7, p8, p9, p10⟩
    · simp only [List.getElem?_toArray, List.getElem?_cons_zero, List.getElem?_cons_succ, Option.some.injEq] at ho
      subst ho
      simp only [Region.wanted, if_true]
      unfold Oper.wp
      have e3 := p3 (hall ⟨3, .data⟩ (by simp) rfl)
      have e4 := p4 (hall ⟨4, .data⟩ (by simp) rfl)
      subst e3; subst e4
      unfold kfn
      go_simp
      refine (HY w hy hb).mono ?_
      rintro e w' ⟨rfl, hb'⟩
      exact ⟨_, _, _, _, _, _, _, _, rfl, p0, p1, p2, fun _ => rfl, fun _ => rfl, fun _ => rfl, hb.trans hb', fun h => (p6 h).bd hb', fun h => (p7 h).bd hb', p8, p9, p10⟩
    · simp only [List.getElem?_toArray, List.getElem?_cons_zero, List.getElem?_cons_succ, Option.some.injEq] at ho
      subst ho
      simp only [Region.wanted, if_true]
      unfold Oper.wp
      have h8 : L 8 = false := by cases h8 : L 8 with | false => rfl | true => exact absurd (p9 h8) (by rw [hL]; decide)
      go_simp
      have hb' := Bd.alloc w (.cells #[.int .i64 0, .int .i64 0] 52)
      refine ⟨_, _, _, _, _, _, _, _, rfl, p0, p1, p2, p3, p4, p5, hb.trans hb', fun _ => ⟨w.heap.size, rfl, ?_, hb.below.size⟩, fun h => (p7 h).bd hb', fun _ h => ?_, fun _ => rfl, p10⟩
      · show _ = some (Obj.cells (if L 8 = true then _ else _) _ _)
        rw [h8]
        exact heap_alloc_new w _
      · obtain ⟨g, rfl, hg, _⟩ := p7 h
        have := (Array.getElem?_eq_some_iff.1 hg).1
        intro e
        injection e with e; injection e with e; injection e with e
        omega
    · simp only [List.getElem?_toArray, List.getElem?_cons_zero, List.getElem?_cons_succ, Option.some.injEq] at ho
      subst ho
      simp only [Region.wanted, if_true]
      unfold Oper.wp
      have h9 : L 9 = false := by cases h9 : L 9 with | false => rfl | true => exact absurd (p10 h9) (by rw [hL]; decide)
      go_simp
      have hb' := Bd.alloc w (.cells #[.int .i64 0, .int .i64 0] 52)
      refine ⟨_, _, _, _, _, _, _, _, rfl, p0, p1, p2, p3, p4, p5, hb.trans hb', fun h => (p6 h).bd hb', fun _ => ⟨w.heap.size, rfl, ?_, hb.below.size⟩, fun h _ => ?_, p9, fun _ => rfl⟩
      · show _ = some (Obj.cells (if L 9 = true then _ else _) _ _)
        rw [h9]
        exact heap_alloc_new w _
      · obtain ⟨g, rfl, hg, _⟩ := p6 h
        have := (Array.getElem?_eq_some_iff.1 hg).1
        intro e
        injection e with e; injection e with e; injection e with e
        omega
    · simp only [List.getElem?_toArray, List.getElem?_cons_zero, List.getElem?_cons_succ, Option.some.injEq] at ho
      subst ho
      simp only [Region.wanted, if_true]
      unfold Oper.wp
      have l6 := hall ⟨6, .data⟩ (by simp) rfl
      have e2 := p2 (hall ⟨2, .data⟩ (by simp) rfl)
      obtain ⟨g, rfl, hg, hB⟩ := p6 l6
      rw [hL] at hg
      subst e2
      obtain ⟨c0, c1, f0, f1⟩ := pair_cells hg
      go_simp
      refine ⟨_, _, _, _, _, _, _, _, rfl, p0, p1, fun _ => rfl, p3, p4, p5, (hb.setCell hB _).setCell hB _, fun _ => ⟨g, rfl, (pair_set hg).1, hB⟩, fun h => ?_, p8, fun _ => l6, p10⟩
      obtain ⟨g7, rfl, hg7, hB7⟩ := p7 h
      exact ⟨g7, rfl, ((pair_set hg).2 g7 (fun e => p8 l6 h (by rw [e]))).trans hg7, hB7⟩
    · simp only [List.getElem?_toArray, List.getElem?_cons_zero, List.getElem?_cons_succ, Option.some.injEq] at ho
      subst ho
      simp only [Region.wanted, if_true]
      unfold Oper.wp
      have l7 := hall ⟨7, .data⟩ (by simp) rfl
      have e5 := p5 (hall ⟨5, .data⟩ (by simp) rfl)
      obtain ⟨g, rfl, hg, hB⟩ := p7 l7
      rw [hL] at hg
      subst e5
      obtain ⟨c0, c1, f0, f1⟩ := pair_cells hg
      go_simp
      refine ⟨_, _, _, _, _, _, _, _, rfl, p0, p1, p2, p3, p4, fun _ => rfl, (hb.setCell hB _).setCell hB _, fun h => ?_, fun _ => ⟨g, rfl, (pair_set hg).1, hB⟩, p8, p9, fun _ => l7⟩
      obtain ⟨g6, rfl, hg6, hB6⟩ := p6 h
      exact ⟨g6, rfl, ((pair_set hg).2 g6 (fun e => p8 h l7 (by rw [e]))).trans hg6, hB6⟩
  case hend =>
    intro L a w hI hall
    obtain ⟨v6, v7, v8, v9, v10, v11, v12, v13, rfl, p0, p1, p2, p3, p4, p5, hb, p6, p7, p8, p9, p10⟩ := hI
    obtain ⟨g6, rfl, hg6, hB6⟩ := p6 (hall 6 (by decide))
    obtain ⟨g7, rfl, hg7, hB7⟩ := p7 (hall 7 (by decide))
    rw [hall 8 (by decide)] at hg6
    rw [hall 9 (by decide)] at hg7
    obtain ⟨c0, c1, q1, q2⟩ := pair_cells hg6
    obtain ⟨d0, d1, q3, q4⟩ := pair_cells hg7
    clear p0 p1 p2 p3 p4 p5 p6 p7 p8 p9 p10 hall HX HY hF hg6 hg7 q1 q2 q3 q4
    rename_i Q1 K1 HK1
    refine HK1 _ _ ?_
    clear HK1
    have hb2 : Bd W w.drew := hb.trans (Bd.drew w)
    obtain ⟨w2, hw2⟩ : ∃ w2, w2 = w.drew := ⟨_, rfl⟩
    replace c0 : w.drew.cell? ⟨g6, 0, none⟩ = some (.int .i64 a0) := c0
    replace c1 : w.drew.cell? ⟨g6, 1, none⟩ = some (.int .i64 a1) := c1
    replace d0 : w.drew.cell? ⟨g7, 0, none⟩ = some (.int .i64 b0) := d0
    replace d1 : w.drew.cell? ⟨g7, 1, none⟩ = some (.int .i64 b1) := d1
    rw [← hw2] at c0 c1 d0 d1 hb2
    have HB := Lib.hid hb2
    clear hb hb2
    have hcs := fun X : World => (Bd.alloc X (.cells #[.int .i64 (cmpI a0 b0), .int .i64 (cmpI a1 b1)] 3))
    have hor := or_any (cmpI a0 b0) (cmpI a1 b1) w2.heap.size (w2.alloc (.cells #[.int .i64 (cmpI a0 b0), .int .i64 (cmpI a1 b1)] 3)) (pair_cells (heap_alloc_new w2 _)).1 (pair_cells (heap_alloc_new w2 _)).2.1
    have HE := Lib.hid ((hcs w2))
    clear hcs
    go_wp2
    refine wp_region_still_tail 10 (by kernel_rfl) (by kernel_rfl) ?_
    simp only [List.take_succ_cons, List.take_zero, List.drop_succ_cons, List.drop_zero]
    change wpStill _ _ w.drew (fun a' => wpList _ _ _ _ a' w.drew) _ _
    rw [← hw2]
    clear hw2
    repeat still_step
    still_call (compare_any _ _ _)
    repeat still_step
    still_call (compare_any _ _ _)
    repeat still_step
    refine wpStill_nil ?_
    go_wp2_with (go_at_call 30; refine hor.mono ?_; rintro e w' ⟨rfl, hw⟩; rw [hw])
    go_ret
    exact ⟨rfl, HB.out.trans HE.out⟩
end Go.Proofs.Ytalhipjgafjmoaa.Suf
