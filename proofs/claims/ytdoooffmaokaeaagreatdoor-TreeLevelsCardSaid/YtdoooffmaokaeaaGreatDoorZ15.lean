/- Part 15 of what this claim leans on: YSwapB. -/
import Derived.Test.YtdoooffmaokaeaaGreatDoorZ14
import Derived.Shelf.SlSortCmp.Kit1
import Derived.Shelf.SlSortCmp.Insertion1
import Derived.Sort.WalkB2
import Derived.Sort.WalkB12
import Derived.Deep.LoopGhost
/- slices.swapRangeCmpFunc, slices.rotateCmpFunc at []int, by their contracts. -/
section
set_option linter.unusedVariables false
set_option linter.unusedSimpArgs false
set_option linter.unusedSectionVars false
namespace Go.Proofs.YtdoooffmaokaeaaGreatDoor.StableB
open Go.RowKit Go.Shelf Go.Lib Go.Sort Go.Proofs
set_option linter.unusedVariables false
set_option linter.unusedSimpArgs false

/-- swapRange. -/
def swr (d : Array Int) (a b : Nat) : Nat → Array Int
  | 0 => d
  | n + 1 => swp (swr d a b n) (a + n) (b + n)
theorem swr_size (d : Array Int) (a b : Nat) : ∀ n, (swr d a b n).size = d.size
  | 0 => rfl
  | n + 1 => by unfold swr; rw [size_swp, swr_size d a b n]
theorem swr_get (d : Array Int) (a b : Nat) : ∀ n, a + n ≤ b → b + n ≤ d.size → ∀ k, (swr d a b n)[k]! = if a ≤ k ∧ k < a + n then d[k + (b - a)]! else if b ≤ k ∧ k < b + n then d[k - (b - a)]! else d[k]!
  | 0, _, _, k => by rw [if_neg (by omega), if_neg (by omega)]; rfl
  | n + 1, h, h2, k => by
    unfold swr
    have ih := swr_get d a b n (by omega) (by omega)
    have hs := swr_size d a b n
    have g := swp_get (swr d a b n) (i := a + n) (j := b + n) (by rw [hs]; omega) (by rw [hs]; omega) k
    have e1 := ih (a + n)
    have e2 := ih (b + n)
    have e3 := ih k
    have n1 : ¬ (a ≤ a + n ∧ a + n < a + n) := by omega
    have n2 : ¬ (b ≤ a + n ∧ a + n < b + n) := by omega
    have n3 : ¬ (a ≤ b + n ∧ b + n < a + n) := by omega
    have n4 : ¬ (b ≤ b + n ∧ b + n < b + n) := by omega
    simp only [n1, n2, if_false] at e1
    simp only [n3, n4, if_false] at e2
    by_cases c1 : k = b + n
    · subst c1
      have m1 : ¬ (a ≤ b + n ∧ b + n < a + (n + 1)) := by omega
      have m2 : b ≤ b + n ∧ b + n < b + (n + 1) := by omega
      have m3 : b + n ≠ a + n := by omega
      rw [g, e1]
      simp only [m1, m2, m3, if_false, if_true, and_self]
      try (congr 1 <;> omega)
    · by_cases c2 : k = a + n
      · subst c2
        have m1 : a ≤ a + n ∧ a + n < a + (n + 1) := by omega
        rw [g, e2]
        simp only [m1, c1, if_false, if_true, and_self]
        try (congr 1 <;> omega)
      · rw [g, if_neg c1, if_neg c2, e3]
        by_cases c3 : a ≤ k ∧ k < a + n
        · have m1 : a ≤ k ∧ k < a + (n + 1) := by omega
          simp only [c3, m1, if_true, and_self]
        · have m1 : ¬ (a ≤ k ∧ k < a + (n + 1)) := by omega
          simp only [c3, m1, if_false]
          by_cases c4 : b ≤ k ∧ k < b + n
          · have m2 : b ≤ k ∧ k < b + (n + 1) := by omega
            simp only [c4, m2, if_true, and_self]
          · have m2 : ¬ (b ≤ k ∧ k < b + (n + 1)) := by omega
            simp only [c4, m2, if_false]
theorem swr_perm (d : Array Int) (lo hi a b : Nat) (h1 : lo ≤ a) (h2 : lo ≤ b) (hh : hi ≤ d.size) : ∀ n, a + n ≤ hi → b + n ≤ hi → PermIn lo hi d (swr d a b n)
  | 0, _, _ => permIn_refl d lo hi
  | n + 1, h3, h4 => permIn_trans _ _ _ lo hi (swr_perm d lo hi a b h1 h2 hh n (by omega) (by omega)) (swp_permIn _ lo hi (a + n) (b + n) (by omega) (by omega) (by omega) (by omega) (by rw [swr_size]; exact hh))
/-- The parts change places. -/
structure Rot (d d' : Array Int) (a m b : Nat) : Prop where
  size : d'.size = d.size
  low : ∀ k, a ≤ k → k < a + (b - m) → d'[k]! = d[k + (m - a)]!
  high : ∀ k, a + (b - m) ≤ k → k < b → d'[k]! = d[k - (b - m)]!
  out : ∀ k, k < a ∨ b ≤ k → d'[k]! = d[k]!
theorem Rot.more {d d1 d' : Array Int} {m i j : Nat} (hm : i ≤ m) (hij : j < i) (hb : m + j ≤ d.size) (h1 : d1 = swr d (m - i) m j) (h : Rot d1 d' (m - (i - j)) m (m + j)) : Rot d d' (m - i) m (m + j) := by
  have g := swr_get d (m - i) m j (by omega) (by omega)
  rw [← h1] at g
  have hs : d1.size = d.size := by rw [h1, swr_size]
  refine ⟨h.size.trans hs, fun k h2 h3 => ?_, fun k h2 h3 => ?_, fun k h2 => ?_⟩
  · rw [h.out k (by omega), g, if_pos (by omega)]
    try (congr 1 <;> omega)
  · by_cases c : k < m - (i - j) + j
    · rw [h.low k (by omega) (by omega), g, if_neg (by omega), if_pos (by omega)]
      try (congr 1 <;> omega)
    · rw [h.high k (by omega) (by omega), g, if_neg (by omega), if_neg (by omega)]
      try (congr 1 <;> omega)
  · rw [h.out k (by omega), g, if_neg (by omega), if_neg (by omega)]
theorem Rot.less {d d1 d' : Array Int} {m i j : Nat} (hm : i ≤ m) (hij : i < j) (hb : m + j ≤ d.size) (h1 : d1 = swr d (m - i) (m + j - i) i) (h : Rot d1 d' (m - i) m (m + (j - i))) : Rot d d' (m - i) m (m + j) := by
  have g := swr_get d (m - i) (m + j - i) i (by omega) (by omega)
  rw [← h1] at g
  have hs : d1.size = d.size := by rw [h1, swr_size]
  refine ⟨h.size.trans hs, fun k h2 h3 => ?_, fun k h2 h3 => ?_, fun k h2 => ?_⟩
  · by_cases c : k < m - i + (j - i)
    · rw [h.low k (by omega) (by omega), g, if_neg (by omega), if_neg (by omega)]
    · by_cases c2 : k < m + (j - i)
      · rw [h.high k (by omega) (by omega), g, if_pos (by omega)]
        try (congr 1 <;> omega)
      · rw [h.out k (by omega), g, if_neg (by omega)]
        omega
  · rw [h.out k (by omega), g, if_neg (by omega), if_pos (by omega)]
    try (congr 1 <;> omega)
  · rw [h.out k (by omega), g, if_neg (by omega), if_neg (by omega)]
theorem Rot.same {d d' : Array Int} {m i : Nat} (hm : i ≤ m) (hb : m + i ≤ d.size) (h1 : d' = swr d (m - i) m i) : Rot d d' (m - i) m (m + i) := by
  have g := swr_get d (m - i) m i (by omega) (by omega)
  rw [← h1] at g
  refine ⟨by rw [h1, swr_size], fun k h2 h3 => ?_, fun k h2 h3 => ?_, fun k h2 => ?_⟩
  · rw [g, if_pos (by omega)]
    try (congr 1 <;> omega)
  · rw [g, if_neg (by omega), if_pos (by omega)]
    try (congr 1 <;> omega)
  · rw [g, if_neg (by omega), if_neg (by omega)]
theorem mixed : Tryz.prog.follows Departure.mixedOrders = true := by kernel_rfl

set_option maxHeartbeats 4000000 in
set_option maxRecDepth 1000000 in
theorem swapRange_any (enc : Int → Value) (g : Nat) (cb : Array Value) (blk off cap a b n : Nat) (d0 d : Array Int) (w0 w : World)
    (R : Row1 enc w0 blk off d0) (hs : d0.size = d.size) (S : SW enc w0 blk off d w) (hab : a + n ≤ d.size) (hb : b + n ≤ d.size) (hsz : d.size < 4611686018427387904) :
    Calls Tryz.prog 183 #[.slice (some ⟨blk, off, none⟩) d.size cap, .int .i64 a, .int .i64 b, .int .i64 n, .func (.func g) #[] cb] w fun e w' => e = .returned (.tuple #[]) ∧ SW enc w0 blk off (swr d a b n) w' := by
  have mixed := mixed
  have hcl0 := R.hO.cells
  simp only [Value.cells] at hcl0
  have hst := R.hO.store Tryz.prog
  have S0 : Aside (SW enc w0 blk off d w) := S
  clear S
  go_enter Tryz.func183, Tryz.ntmps183
  go_wp2
  go_loopg [10] n (fun kx s10 wr => ∃ (i : Nat), s10 = .int .i64 i ∧ i ≤ n ∧ n - i ≤ kx ∧ Aside (SW enc w0 blk off (swr d a b i) wr))
  case atStart => exact ⟨0, rfl, by omega, by omega, S0⟩
  case round =>
    clear S0
    obtain ⟨i, rfl, hi, hkx, S1⟩ := hrel
    by_cases hlt : i < n
    · have hlz : (i : Int) < (n : Int) := by omega
      go_wp2_with fail
      obtain ⟨iN, hiN⟩ : ∃ q, q = a + i := ⟨_, rfl⟩
      obtain ⟨jN, hjN⟩ : ∃ q, q = b + i := ⟨_, rfl⟩
      have hds := swr_size d a b i
      obtain ⟨dk, hdk⟩ : ∃ dk, dk = swr d a b i := ⟨_, rfl⟩
      rw [← hdk] at S1 hds
      have ea : ((a : Int) + (i : Int)).toNat = iN := by omega
      have pa : (0 : Int) ≤ (a : Int) + (i : Int) := by omega
      have ba : (a : Int) + (i : Int) < (d.size : Int) := by omega
      have ra : IntKind.i64.wrap ((a : Int) + (i : Int)) = (a : Int) + (i : Int) := by rw [IntKind.wrap_i64]; omega
      have ec : ((b : Int) + (i : Int)).toNat = jN := by omega
      have pc : (0 : Int) ≤ (b : Int) + (i : Int) := by omega
      have bc : (b : Int) + (i : Int) < (d.size : Int) := by omega
      have rc : IntKind.i64.wrap ((b : Int) + (i : Int)) = (b : Int) + (i : Int) := by rw [IntKind.wrap_i64]; omega
      obtain ⟨x, hx⟩ : ∃ x, x = dk[a + i]! := ⟨_, rfl⟩
      obtain ⟨y, hy⟩ : ∃ x, x = dk[b + i]! := ⟨_, rfl⟩
      have S2 : Aside (SW enc w0 blk off (swr d a b (i + 1)) ((wr.setCell ⟨blk, off + iN, none⟩ (enc y)).setCell ⟨blk, off + jN, none⟩ (enc x)).drew) := by
        unfold swr
        rw [← hdk, hiN, hjN, hx, hy]; exact S1.out.swapped R (a + i) (b + i) (by omega) (by omega)
      have c1 := S1.out.c1 R (by omega) (a + i) (by omega)
      have c2 := S1.out.c1 R (by omega) (b + i) (by omega)
      have f1 := S1.out.f1 R (by omega) (a + i) (by omega)
      have f2 := S1.out.f1 R (by omega) (b + i) (by omega)
      obtain ⟨u, c3⟩ := S1.out.c2 R (by omega) (a + i) (b + i) (by omega) (by omega) (enc y)
      rw [← hjN, ← hiN] at c3
      rw [← hx, ← hiN] at c1
      rw [← hy, ← hjN] at c2
      rw [← hiN] at f1
      rw [← hjN] at f2
      clear S1 hx hy hiN hjN hdk hds
      go_wp2_with fail
      go_big_region_o
      clear c1 c2 c3 f1 f2
      generalize ((wr.setCell ⟨blk, off + iN, none⟩ (enc y)).setCell ⟨blk, off + jN, none⟩ (enc x)).drew = w2 at S2 ⊢
      clear ea ec
      go_wp2
      go_roundg (n - (i + 1))
      case measure => omega
      case rel => exact ⟨i + 1, by go_num, by omega, by omega, S2⟩
    · obtain rfl : i = n := by omega
      have hlz : ¬ (i : Int) < (i : Int) := by omega
      go_wp2
      go_end0
      exact ⟨rfl, S1.out⟩

set_option maxHeartbeats 4000000 in
set_option maxRecDepth 1000000 in
theorem rotate_any (enc : Int → Value) (g : Nat) (cb : Array Value) (blk off cap a m b : Nat) (d0 d : Array Int) (w0 w : World)
    (R : Row1 enc w0 blk off d0) (hs : d0.size = d.size) (S : SW enc w0 blk off d w) (ham : a < m) (hmb : m < b) (hb : b ≤ d.size) (hsz : d.size < 4611686018427387904) :
    Calls Tryz.prog 150 #[.slice (some ⟨blk, off, none⟩) d.size cap, .int .i64 a, .int .i64 m, .int .i64 b, .func (.func g) #[] cb] w fun e w' => e = .returned (.tuple #[]) ∧ ∃ d', Rot d d' a m b ∧ PermIn a b d d' ∧ SW enc w0 blk off d' w' := by
  have mixed := mixed
  have hcl0 := R.hO.cells
  simp only [Value.cells] at hcl0
  have hst := R.hO.store Tryz.prog
  have S0 : Aside (SW enc w0 blk off d w) := S
  clear S
  obtain ⟨i0, hi0⟩ : ∃ i, i + a = m := ⟨m - a, by omega⟩
  obtain ⟨j0, hj0⟩ : ∃ j, j + m = b := ⟨b - m, by omega⟩
  have z1 : IntKind.i64.wrap ((m : Int) - (a : Int)) = (i0 : Int) := by rw [IntKind.wrap_i64]; omega
  have z2 : IntKind.i64.wrap ((b : Int) - (m : Int)) = (j0 : Int) := by rw [IntKind.wrap_i64]; omega
  go_enter Tryz.func150, Tryz.ntmps150
  go_wp2
  clear z1 z2
  go_loopg [10, 11] b (fun kx s10 s11 wr => ∃ (i j : Nat) (dk : Array Int), s10 = .int .i64 i ∧ s11 = .int .i64 j ∧ 0 < i ∧ 0 < j ∧ i ≤ m ∧ m + j ≤ b ∧ i + j ≤ kx ∧ dk.size = d.size ∧ Aside (SW enc w0 blk off dk wr) ∧ Hid (∀ d', Rot dk d' (m - i) m (m + j) → Rot d d' a m b) ∧ Hid (a ≤ m - i ∧ PermIn a b d dk))
  case atStart => exact ⟨i0, j0, d, rfl, rfl, by omega, by omega, by omega, by omega, by omega, rfl, S0, Lib.hid (fun d' h => by rw [show m - i0 = a by omega, show m + j0 = b by omega] at h; exact h), Lib.hid ⟨by omega, permIn_refl d a b⟩⟩
  case round =>
    clear S0
    obtain ⟨i, j, dk, rfl, rfl, hi, hj, him, hjb, hkx, hds, S1, HR, HP⟩ := hrel
    have hai := HP.out.1
    have z3 : IntKind.i64.wrap ((m : Int) - (i : Int)) = ((m - i : Nat) : Int) := by rw [IntKind.wrap_i64]; omega
    by_cases hne : i = j
    · subst hne
      go_wp2_with fail
      have hcl := swapRange_any enc g cb blk off cap (m - i) m i d0 dk w0 wr R (by omega) S1.out (by omega) (by omega) (by omega)
      rw [hds] at hcl
      refine hcl.mono ?_
      rintro e w2 ⟨rfl, S2⟩
      have S3 : Aside (SW enc w0 blk off (swr dk (m - i) m i) w2) := S2
      clear S1 S2 z3 hcl
      go_wp2
      go_end0
      exact ⟨rfl, _, HR.out _ (Rot.same (by omega) (by omega) rfl), permIn_trans _ _ _ a b HP.out.2 (swr_perm dk a b (m - i) m (by omega) (by omega) (by omega) i (by omega) (by omega)), S3.out⟩
    · have hnz : ¬ (i : Int) = (j : Int) := by omega
      by_cases hgt : j < i
      · have hgz : (j : Int) < (i : Int) := by omega
        go_wp2_with fail
        have hcl := swapRange_any enc g cb blk off cap (m - i) m j d0 dk w0 wr R (by omega) S1.out (by omega) (by omega) (by omega)
        rw [hds] at hcl
        refine hcl.mono ?_
        rintro e w2 ⟨rfl, S2⟩
        have S3 : Aside (SW enc w0 blk off (swr dk (m - i) m j) w2) := S2
        clear S1 S2 z3 hcl
        obtain ⟨i2, hi2⟩ : ∃ i2, i2 + j = i := ⟨i - j, by omega⟩
        have z4 : IntKind.i64.wrap ((i : Int) - (j : Int)) = (i2 : Int) := by rw [IntKind.wrap_i64]; omega
        go_wp2
        go_roundg (i2 + j)
        case measure => omega
        case rel =>
          refine ⟨i2, j, _, rfl, rfl, by omega, by omega, by omega, by omega, by omega, by rw [swr_size]; exact hds, S3, Lib.hid fun d' h => HR.out d' (Rot.more (by omega) hgt (by omega) rfl ?_), Lib.hid ⟨by omega, permIn_trans _ _ _ a b HP.out.2 (swr_perm dk a b (m - i) m (by omega) (by omega) (by omega) j (by omega) (by omega))⟩⟩
          rw [show m - (i - j) = m - i2 by omega]
          exact h
      · have hgz : ¬ (j : Int) < (i : Int) := by omega
        have z5 : IntKind.i64.wrap ((m : Int) + (j : Int)) = ((m + j : Nat) : Int) := by rw [IntKind.wrap_i64]; omega
        have z6 : IntKind.i64.wrap (((m + j : Nat) : Int) - (i : Int)) = ((m + j - i : Nat) : Int) := by rw [IntKind.wrap_i64]; omega
        have z6' : IntKind.i64.wrap ((m : Int) + (j : Int) - (i : Int)) = ((m + j - i : Nat) : Int) := by rw [IntKind.wrap_i64]; omega
        go_wp2_with fail
        have hcl := swapRange_any enc g cb blk off cap (m - i) (m + j - i) i d0 dk w0 wr R (by omega) S1.out (by omega) (by omega) (by omega)
        rw [hds] at hcl
        refine hcl.mono ?_
        rintro e w2 ⟨rfl, S2⟩
        have S3 : Aside (SW enc w0 blk off (swr dk (m - i) (m + j - i) i) w2) := S2
        clear S1 S2 z3 hcl z5 z6 z6'
        obtain ⟨j2, hj2⟩ : ∃ j2, j2 + i = j := ⟨j - i, by omega⟩
        have z4 : IntKind.i64.wrap ((j : Int) - (i : Int)) = (j2 : Int) := by rw [IntKind.wrap_i64]; omega
        go_wp2
        go_roundg (i + j2)
        case measure => omega
        case rel =>
          refine ⟨i, j2, _, rfl, rfl, by omega, by omega, by omega, by omega, by omega, by rw [swr_size]; exact hds, S3, Lib.hid fun d' h => HR.out d' (Rot.less (by omega) (by omega) (by omega) rfl ?_), Lib.hid ⟨by omega, permIn_trans _ _ _ a b HP.out.2 (swr_perm dk a b (m - i) (m + j - i) (by omega) (by omega) (by omega) i (by omega) (by omega))⟩⟩
          rw [show j - i = j2 by omega]
          exact h
end Go.Proofs.YtdoooffmaokaeaaGreatDoor.StableB
end
