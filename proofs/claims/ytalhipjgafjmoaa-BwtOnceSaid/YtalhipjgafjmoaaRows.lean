/-
  No cell of these rows narrows 'for every input' (looked for: loops, veiled, ifaces, maps, wideKeys, modest, calm, conditions, laid).
  DERIVED. THE GIVEN ROWS OF THIS SEAT. 5 by the template 'for every input the law returns true; each argument reads behind the call as it read before'; 0 by the template 'total and deterministic' (their statements: YtalhipjgafjmoaaTotals.lean).
  GIVEN WITH THE SEED: the statements are not yours to turn. If you find one false, say at which input.
  Laid BY PROGRAM, IN A SANDBOX (cutbox-rows.mjs): the forced cells as the released guide's own fill.sh prints them over the translation 9b7963531ddd5445… (all of the seat's roots in one cut). By AI agents, Wed Nov 11 2026. No macro, syntax, notation, axiom, sorry.
-/
import Derived.Test.YtalhipjgafjmoaaChecked
import GoSem.Claim
import GoSem.ClaimJoined
import GoSem.ClaimMapViews
import Derived.JoinedTies
import Derived.KernelRfl
namespace Go.Proofs.Ytalhipjgafjmoaa
/- THE CELL 'sum', in the pinned program and in every row, IS THE sha256 OF THE DUMP (.gsa) THAT YtalhipjgafjmoaaProg.lean LOADS. Nothing in Lean hashes anything: it is a label: what it is worth is what the hold of that sum in a sandbox is worth. -/
noncomputable def Try.pinned : Pinned := { name := "ytalhipjgafjmoaa", sum := "9b7963531ddd5445c8212da636ef1fb6d4ff0e4c4aeb267a747f031c163db7ae", checked := Try.checked }
namespace Rows
def none {H : Type} : Left H := { results := [], args := [] }

/-- 'haystacklaw18.BwtOnce': WHATEVER THE INPUT: true; the input reads as it did. -/
def bwtOnceSpec : ChangeSpec := { name := "bwtOnce", fn := fun _ => fun
  | [d] => { results := [.lit (.bool true)], args := [d] }
  | _ => none }
def bwtOnceRow : OpenClaim := { program := "ytalhipjgafjmoaa", sum := "9b7963531ddd5445c8212da636ef1fb6d4ff0e4c4aeb267a747f031c163db7ae", func := "haystack/haystacklaw18.BwtOnce", spec := "bwtOnce", unfollowed := true, recurses := true, apart := false }
def BwtOnceSaid : Prop := bwtOnceRow.holds Try.pinned (OpenSpec.ofChange bwtOnceSpec)

/-- ITS FALSE NEIGHBOUR: 'it returns false'. Refute it at one input. -/
def bwtOnceWrong : ChangeSpec := { name := "bwtOnce", fn := fun _ => fun
  | [d] => { results := [.lit (.bool false)], args := [d] }
  | _ => none }
def BwtOnceWrongFalsely : Prop := bwtOnceRow.holds Try.pinned (OpenSpec.ofChange bwtOnceWrong)

/-- 'haystacklaw18.BwtRow': WHATEVER THE INPUT: true; the input reads as it did. -/
def bwtRowSpec : ChangeSpec := { name := "bwtRow", fn := fun _ => fun
  | [d] => { results := [.lit (.bool true)], args := [d] }
  | _ => none }
def bwtRowRow : OpenClaim := { program := "ytalhipjgafjmoaa", sum := "9b7963531ddd5445c8212da636ef1fb6d4ff0e4c4aeb267a747f031c163db7ae", func := "haystack/haystacklaw18.BwtRow", spec := "bwtRow", unfollowed := true, recurses := true, apart := false }
def BwtRowSaid : Prop := bwtRowRow.holds Try.pinned (OpenSpec.ofChange bwtRowSpec)

/-- ITS FALSE NEIGHBOUR: 'it returns false'. Refute it at one input. -/
def bwtRowWrong : ChangeSpec := { name := "bwtRow", fn := fun _ => fun
  | [d] => { results := [.lit (.bool false)], args := [d] }
  | _ => none }
def BwtRowWrongFalsely : Prop := bwtRowRow.holds Try.pinned (OpenSpec.ofChange bwtRowWrong)

/-- 'haystacklaw18.BwtBack': WHATEVER THE INPUT: true; the input reads as it did. -/
def bwtBackSpec : ChangeSpec := { name := "bwtBack", fn := fun _ => fun
  | [d] => { results := [.lit (.bool true)], args := [d] }
  | _ => none }
def bwtBackRow : OpenClaim := { program := "ytalhipjgafjmoaa", sum := "9b7963531ddd5445c8212da636ef1fb6d4ff0e4c4aeb267a747f031c163db7ae", func := "haystack/haystacklaw18.BwtBack", spec := "bwtBack", unfollowed := true, recurses := true, apart := false }
def BwtBackSaid : Prop := bwtBackRow.holds Try.pinned (OpenSpec.ofChange bwtBackSpec)

/-- ITS FALSE NEIGHBOUR: 'it returns false'. Refute it at one input. -/
def bwtBackWrong : ChangeSpec := { name := "bwtBack", fn := fun _ => fun
  | [d] => { results := [.lit (.bool false)], args := [d] }
  | _ => none }
def BwtBackWrongFalsely : Prop := bwtBackRow.holds Try.pinned (OpenSpec.ofChange bwtBackWrong)

/-- 'haystacklaw18.BwtSteps': WHATEVER THE INPUT: true; the input reads as it did. -/
def bwtStepsSpec : ChangeSpec := { name := "bwtSteps", fn := fun _ => fun
  | [d] => { results := [.lit (.bool true)], args := [d] }
  | _ => none }
def bwtStepsRow : OpenClaim := { program := "ytalhipjgafjmoaa", sum := "9b7963531ddd5445c8212da636ef1fb6d4ff0e4c4aeb267a747f031c163db7ae", func := "haystack/haystacklaw18.BwtSteps", spec := "bwtSteps", unfollowed := true, recurses := true, apart := false }
def BwtStepsSaid : Prop := bwtStepsRow.holds Try.pinned (OpenSpec.ofChange bwtStepsSpec)

/-- ITS FALSE NEIGHBOUR: 'it returns false'. Refute it at one input. -/
def bwtStepsWrong : ChangeSpec := { name := "bwtSteps", fn := fun _ => fun
  | [d] => { results := [.lit (.bool false)], args := [d] }
  | _ => none }
def BwtStepsWrongFalsely : Prop := bwtStepsRow.holds Try.pinned (OpenSpec.ofChange bwtStepsWrong)

/-- 'haystacklaw18.BwtCounts': WHATEVER THE INPUT: true; the input reads as it did. -/
def bwtCountsSpec : ChangeSpec := { name := "bwtCounts", fn := fun _ => fun
  | [d1, d2] => { results := [.lit (.bool true)], args := [d1, d2] }
  | _ => none }
def bwtCountsRow : OpenClaim := { program := "ytalhipjgafjmoaa", sum := "9b7963531ddd5445c8212da636ef1fb6d4ff0e4c4aeb267a747f031c163db7ae", func := "haystack/haystacklaw18.BwtCounts", spec := "bwtCounts", unfollowed := true, recurses := true, apart := false }
def BwtCountsSaid : Prop := bwtCountsRow.holds Try.pinned (OpenSpec.ofChange bwtCountsSpec)

/-- ITS FALSE NEIGHBOUR: 'it returns false'. Refute it at one input. -/
def bwtCountsWrong : ChangeSpec := { name := "bwtCounts", fn := fun _ => fun
  | [d1, d2] => { results := [.lit (.bool false)], args := [d1, d2] }
  | _ => none }
def BwtCountsWrongFalsely : Prop := bwtCountsRow.holds Try.pinned (OpenSpec.ofChange bwtCountsWrong)

/- THE SECOND FORM. 'bulk': how many values and letters a reading holds, each counted each time it is reached (what is shared counts as often as it is met; a slice's spare places count too). A statement '..UptoSaid' is the law's where the arguments, and the package variables that the reading takes, are together of bulk at most 1048576: NARROWER than '..Said'. Prove '..Said' where nothing that the law and all that it calls make is longer than what came in: it says more and counts as full. Else prove '..UptoSaid'. A law counts once. -/
mutual
def uptoBulk {H : Type} : DataW H → Nat
  | .lit (.string bytes) => bytes.length + 1
  | .lit _ => 1
  | .nil => 1
  | .ptr d => uptoBulk d + 1
  | .slice elems spare => uptoBulkAll elems + uptoBulkAll spare + 1
  | .agg parts => uptoBulkAll parts + 1
  | .iface _ d => uptoBulk d + 1
  | .map entries => uptoBulkEntries entries + 1
  | .held _ => 1
def uptoBulkAll {H : Type} : List (DataW H) → Nat
  | [] => 0
  | d :: r => uptoBulk d + uptoBulkAll r
def uptoBulkEntries {H : Type} : List (Lit × DataW H) → Nat
  | [] => 0
  | x :: r => uptoBulkEntry x + uptoBulkEntries r
def uptoBulkEntry {H : Type} : Lit × DataW H → Nat
  | (.string bytes, d) => bytes.length + uptoBulk d + 1
  | (_, d) => uptoBulk d + 1
 end
def uptoSmall : (H : Type) → List (DataW H) → Bool := fun _ ds => decide (uptoBulkAll ds ≤ 1048576)
def OpenSpec.upto (s : _root_.Go.ChangeSpec) : _root_.Go.OpenSpec := { _root_.Go.OpenSpec.ofChange s with cond := some uptoSmall }

/-- 'haystacklaw18.BwtOnce', WHERE WHAT IT READS IS OF BULK AT MOST 1048576: true; the input reads as it did. -/
def bwtOnceUptoRow : OpenClaim := { program := "ytalhipjgafjmoaa", sum := "9b7963531ddd5445c8212da636ef1fb6d4ff0e4c4aeb267a747f031c163db7ae", func := "haystack/haystacklaw18.BwtOnce", spec := "bwtOnce", unfollowed := true, recurses := true, apart := false, narrowed := true }
def BwtOnceUptoSaid : Prop := bwtOnceUptoRow.holds Try.pinned (OpenSpec.upto bwtOnceSpec)

/-- 'haystacklaw18.BwtRow', WHERE WHAT IT READS IS OF BULK AT MOST 1048576: true; the input reads as it did. -/
def bwtRowUptoRow : OpenClaim := { program := "ytalhipjgafjmoaa", sum := "9b7963531ddd5445c8212da636ef1fb6d4ff0e4c4aeb267a747f031c163db7ae", func := "haystack/haystacklaw18.BwtRow", spec := "bwtRow", unfollowed := true, recurses := true, apart := false, narrowed := true }
def BwtRowUptoSaid : Prop := bwtRowUptoRow.holds Try.pinned (OpenSpec.upto bwtRowSpec)

/-- 'haystacklaw18.BwtBack', WHERE WHAT IT READS IS OF BULK AT MOST 1048576: true; the input reads as it did. -/
def bwtBackUptoRow : OpenClaim := { program := "ytalhipjgafjmoaa", sum := "9b7963531ddd5445c8212da636ef1fb6d4ff0e4c4aeb267a747f031c163db7ae", func := "haystack/haystacklaw18.BwtBack", spec := "bwtBack", unfollowed := true, recurses := true, apart := false, narrowed := true }
def BwtBackUptoSaid : Prop := bwtBackUptoRow.holds Try.pinned (OpenSpec.upto bwtBackSpec)

/-- 'haystacklaw18.BwtSteps', WHERE WHAT IT READS IS OF BULK AT MOST 1048576: true; the input reads as it did. -/
def bwtStepsUptoRow : OpenClaim := { program := "ytalhipjgafjmoaa", sum := "9b7963531ddd5445c8212da636ef1fb6d4ff0e4c4aeb267a747f031c163db7ae", func := "haystack/haystacklaw18.BwtSteps", spec := "bwtSteps", unfollowed := true, recurses := true, apart := false, narrowed := true }
def BwtStepsUptoSaid : Prop := bwtStepsUptoRow.holds Try.pinned (OpenSpec.upto bwtStepsSpec)

/-- 'haystacklaw18.BwtCounts', WHERE WHAT IT READS IS OF BULK AT MOST 1048576: true; the input reads as it did. -/
def bwtCountsUptoRow : OpenClaim := { program := "ytalhipjgafjmoaa", sum := "9b7963531ddd5445c8212da636ef1fb6d4ff0e4c4aeb267a747f031c163db7ae", func := "haystack/haystacklaw18.BwtCounts", spec := "bwtCounts", unfollowed := true, recurses := true, apart := false, narrowed := true }
def BwtCountsUptoSaid : Prop := bwtCountsUptoRow.holds Try.pinned (OpenSpec.upto bwtCountsSpec)

end Rows
end Go.Proofs.Ytalhipjgafjmoaa
