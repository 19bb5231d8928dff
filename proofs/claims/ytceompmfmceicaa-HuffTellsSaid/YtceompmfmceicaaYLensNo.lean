/- huff.Lengths of counts that may not be: walked by hand. -/
import Derived.Test.YtceompmfmceicaaYLens2
namespace Go.Proofs.Ytceompmfmceicaa.Heap
open Go.RowKit Go.Shelf Go.Lib Go.Proofs Go.Proofs.YtceompmfmceicaaW.PrintWords
set_option linter.unusedVariables false
set_option linter.unusedSimpArgs false

theorem lens_no (counts : List Int) (A : Option Addr) (c : Nat) (w : World) (hr : Kd.C (Kd.int .i64) w A counts.length counts) (hc : Huff.countedB counts = false) :
    Calls Try.prog 9 #[.slice A counts.length c] w fun e w' => e = .returned (.tuple #[.slice none 0 0, .int .i64 2]) ∧ w = w' := by
  have hcount := Huff.counted_any A c counts w hr
  rw [hc] at hcount
  go_enter Try.func9, Try.ntmps9
  go_wp2_with (go_at_call 19; refine hcount.mono ?_; rintro e w' ⟨rfl, rfl⟩)
  go_ret2
  exact ⟨rfl, rfl⟩
end Go.Proofs.Ytceompmfmceicaa.Heap
