/- The three closures of suffix.Array, each by its contract. -/
import Derived.Test.YtalhipjgafjmoaaProg
import Derived.WalkMore
import Derived.ScopeJumps
import Derived.Deep.RegionHeld3
import Derived.Deep.RegionWith
import Derived.BigRegion
import Derived.StillTailTactics
import Derived.WalkLawsBesides
import Derived.WalkSpells
import Derived.Lib.Hide
import Derived.Shelf.Abstract
import Derived.Sort.Grow
import Derived.Outline
namespace Go.Proofs.Ytalhipjgafjmoaa.Suf
open Go.RowKit
set_option linter.unusedVariables false
set_option linter.unusedSimpArgs false

def beh (nm : List Int) (n : Nat) (i : Int) : Int := if i > (n : Int) then -1 else nm.getD i.toNat 0

set_option maxHeartbeats 1000000 in
theorem behind_far (n : Nat) (nm : List Int) (Bn Bs br : Nat) (i : Int) (W : World) (h1 : W.cell? ⟨Bn, 0, none⟩ = some (.int .i64 (n : Int))) (hi : (n : Int) < i) :
    Calls Try.prog 26 #[.int .i64 i, .pointer (some ⟨Bn, 0, none⟩), .pointer (some ⟨Bs, 0, none⟩)] W fun e w' => e = .returned (.int .i64 (-1)) ∧ w' = W := by
  go_enter Try.func26, Try.ntmps26
  go_wp2
  go_ret
  exact ⟨rfl, rfl⟩

set_option maxHeartbeats 1000000 in
theorem behind_near (n : Nat) (nm : List Int) (Bn Bs br : Nat) (k : Nat) (W : World) (hn : n ≤ 8192) (h1 : W.cell? ⟨Bn, 0, none⟩ = some (.int .i64 (n : Int))) (h2 : W.cell? ⟨Bs, 0, none⟩ = some (.slice (some ⟨br, 0, none⟩) (n + 1) (n + 1)))
    (h3 : W.cell? ⟨br, k, none⟩ = some (.int .i64 (nm.getD k 0))) (hi : k ≤ n) :
    Calls Try.prog 26 #[.int .i64 (k : Int), .pointer (some ⟨Bn, 0, none⟩), .pointer (some ⟨Bs, 0, none⟩)] W fun e w' => e = .returned (.int .i64 (nm.getD k 0)) ∧ w' = W := by
  go_enter Try.func26, Try.ntmps26
  go_wp2
  go_ret
  exact ⟨rfl, rfl⟩

/-- What only makes new memory, and draws. -/
structure Bd (W w : World) : Prop where
  below : Below W.heap.size W w
  drawn : W.drawn ≤ w.drawn
theorem Bd.refl (W : World) : Bd W W := ⟨Below.refl _ _, Nat.le_refl _⟩
theorem Bd.trans {a b c : World} (h : Bd a b) (k : Bd b c) : Bd a c :=
  ⟨h.below.trans (k.below.mono h.below.size), Nat.le_trans h.drawn k.drawn⟩
theorem Bd.alloc (W : World) (o : Obj) : Bd W (W.alloc o) := ⟨(Below.refl _ _).alloc (Nat.le_refl _) _, Nat.le_refl _⟩
theorem Bd.drew (W : World) : Bd W W.drew := ⟨(Below.refl _ _).drew, Nat.le_succ _⟩
theorem Bd.drewN (W : World) (n : Nat) : Bd W (W.drewN n) := ⟨⟨rfl, rfl, rfl, Nat.le_refl _, fun _ _ => rfl⟩, Nat.le_add_right _ _⟩
theorem Bd.cell {W w : World} (h : Bd W w) {a : Addr} {v : Value} (hc : W.cell? a = some v) : w.cell? a = some v :=
  (h.below.cell (World.block_lt_of_cell? W a hc)).trans hc
theorem Bd.grow {W w : World} (h : Bd W w) : ∃ q os, w = Go.Sort.grow (W.drewN q) os := by
  refine ⟨w.drawn - W.drawn, w.heap.extract W.heap.size w.heap.size, ?_⟩
  have hh : w.heap = W.heap ++ w.heap.extract W.heap.size w.heap.size := by
    apply Array.ext_getElem?
    intro i
    rcases Nat.lt_or_ge i W.heap.size with hi | hi
    · rw [Array.getElem?_append_left hi]
      exact h.below.block i hi
    · rw [Array.getElem?_append_right hi, Array.getElem?_extract]
      have hs := h.below.size
      split
      · congr 1; omega
      · rw [Array.getElem?_eq_none (by omega)]
  cases w with
  | mk heap tape drawn os output =>
    have h1 := h.below.os; have h2 := h.below.tape; have h3 := h.below.output; have h4 := h.drawn
    simp only at h1 h2 h3 h4 hh
    subst h1; subst h2; subst h3
    show _ = ({ (W.drewN (drawn - W.drawn)) with heap := _ } : World)
    simp only [World.drewN]
    congr 1
    omega

set_option maxHeartbeats 1000000 in
theorem key_any (n : Nat) (nm : List Int) (Bs Bb Bt Bn br : Nat) (k s : Nat) (W : World) (hn : n ≤ 8192) (hs : s ≤ 16384) (hk : k ≤ n) (h1 : W.cell? ⟨Bn, 0, none⟩ = some (.int .i64 (n : Int))) (h2 : W.cell? ⟨Bs, 0, none⟩ = some (.slice (some ⟨br, 0, none⟩) (n + 1) (n + 1)))
    (h3 : ∀ k, k ≤ n → W.cell? ⟨br, k, none⟩ = some (.int .i64 (nm.getD k 0))) (h4 : W.cell? ⟨Bb, 0, none⟩ = some (.func (.func 26) #[] #[.pointer (some ⟨Bn, 0, none⟩), .pointer (some ⟨Bs, 0, none⟩)]))
    (h5 : W.cell? ⟨Bt, 0, none⟩ = some (.int .i64 (s : Int))) :
    Calls Try.prog 27 #[.int .i64 (k : Int), .pointer (some ⟨Bs, 0, none⟩), .pointer (some ⟨Bb, 0, none⟩), .pointer (some ⟨Bt, 0, none⟩)] W fun e w' => e = .returned (.agg #[.int .i64 (nm.getD k 0), .int .i64 (beh nm n ((k + s : Nat) : Int))]) ∧ Bd W w' := by
  have hcon : ∀ w, w.cell? ⟨Bn, 0, none⟩ = some (.int .i64 (n : Int)) → w.cell? ⟨Bs, 0, none⟩ = some (.slice (some ⟨br, 0, none⟩) (n + 1) (n + 1)) → (∀ k, k ≤ n → w.cell? ⟨br, k, none⟩ = some (.int .i64 (nm.getD k 0))) →
      Calls Try.prog 26 #[.int .i64 ((k : Int) + (s : Int)), .pointer (some ⟨Bn, 0, none⟩), .pointer (some ⟨Bs, 0, none⟩)] w fun e w' => e = .returned (.int .i64 (beh nm n ((k + s : Nat) : Int))) ∧ w' = w := by
    intro w g1 g2 g3
    rw [← Int.natCast_add]
    unfold beh
    by_cases hf : ((k + s : Nat) : Int) > (n : Int)
    · rw [if_pos hf]
      exact behind_far n nm Bn Bs br _ w g1 hf
    · rw [if_neg hf, Int.toNat_natCast]
      exact behind_near n nm Bn Bs br (k + s) w hn g1 g2 (g3 _ (by omega)) (by omega)
  have h3k := h3 k hk
  generalize hr : beh nm n ((k + s : Nat) : Int) = r at hcon ⊢
  generalize hx : nm.getD k 0 = x at h3k ⊢
  have H3 := Lib.hid h3
  clear h3 hr hx
  go_enter Try.func27, Try.ntmps27
  go_wp2
  obtain ⟨W1, hW1⟩ : ∃ W1, W1 = (W.alloc (.cells #[.int .i64 0, .int .i64 0] 52)).drew := ⟨_, rfl⟩
  have hb : Bd W W1 := by rw [hW1]; exact (Bd.alloc W _).trans (Bd.drew _)
  have g1 := hb.cell h1; have g2 := hb.cell h2; have g4 := hb.cell h4; have g5 := hb.cell h5; have g3 := hb.cell h3k
  have hc1 := hcon W1 g1 g2 fun k hk => hb.cell (H3.out k hk)
  have e18 : ∀ args w, (callFunc 26 args).run Try.prog w = .ok (.enter 26 args) w := Go.Proofs.enters_of Try.func26 (by kernel_rfl) rfl
  clear hcon h1 h2 h4 h5 h3k hb
  have hlt : (k : Int) < (n : Int) + 1 := by omega
  have hwr : IntKind.i64.wrap ((k : Int) + (s : Int)) = (k : Int) + (s : Int) := Go.IntWalk.i64_in _ (by omega)
  refine wp_region_still_tail 10 (by kernel_rfl) (by kernel_rfl) ?_
  simp only [List.take_succ_cons, List.take_zero, List.drop_succ_cons, List.drop_zero]
  change wpStill _ _ (W.alloc (.cells #[.int .i64 0, .int .i64 0] 52)).drew (fun a' => wpList _ _ _ _ a' (W.alloc (.cells #[.int .i64 0, .int .i64 0] 52)).drew) _ _
  rw [← hW1]
  have HW1 := Lib.hid hW1
  clear hW1
  repeat still_step
  still_call hc1
  repeat still_step
  refine wpStill_nil ?_
  rw [HW1.out]
  go_wp2
  exact bodyPost_ret (v := .agg #[.int .i64 x, .int .i64 r]) (by simp [results, Try.results27, go_sem]) rfl ⟨rfl, (Bd.alloc W _).trans (Bd.drew _)⟩
end Go.Proofs.Ytalhipjgafjmoaa.Suf
