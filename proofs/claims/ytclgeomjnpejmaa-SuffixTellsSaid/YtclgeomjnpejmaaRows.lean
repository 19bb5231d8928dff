/-
  No cell of these rows narrows 'for every input' (looked for: loops, veiled, ifaces, maps, wideKeys, modest, calm, conditions, laid).
  DERIVED. THE GIVEN ROWS OF THIS SEAT. 5 by the template 'for every input the law returns true; each argument reads behind the call as it read before'; 0 by the template 'total and deterministic' (their statements: YtclgeomjnpejmaaTotals.lean).
  GIVEN WITH THE SEED: the statements are not yours to turn. If you find one false, say at which input.
  Laid BY PROGRAM, IN A SANDBOX (cutbox-rows.mjs): the forced cells as the released guide's own fill.sh prints them over the translation 2e57f6b9c30ce9ef… (all of the seat's roots in one cut). By AI agents, Wed Nov 11 2026. No macro, syntax, notation, axiom, sorry.
-/
import Derived.Test.YtclgeomjnpejmaaChecked
import GoSem.Claim
import GoSem.ClaimJoined
import GoSem.ClaimMapViews
import Derived.JoinedTies
import Derived.KernelRfl
namespace Go.Proofs.Ytclgeomjnpejmaa
/- THE CELL 'sum', in the pinned program and in every row, IS THE sha256 OF THE DUMP (.gsa) THAT YtclgeomjnpejmaaProg.lean LOADS. Nothing in Lean hashes anything: it is a label: what it is worth is what the hold of that sum in a sandbox is worth. -/
noncomputable def Try.pinned : Pinned := { name := "ytclgeomjnpejmaa", sum := "2e57f6b9c30ce9efefb59d07ff07f048b24d038ed86ae2b33038958c90f087c6", checked := Try.checked }
namespace Rows
def none {H : Type} : Left H := { results := [], args := [] }

/-- 'haystacklaw17.SuffixFirst': WHATEVER THE INPUT: true; the input reads as it did. -/
def suffixFirstSpec : ChangeSpec := { name := "suffixFirst", fn := fun _ => fun
  | [d1, d2] => { results := [.lit (.bool true)], args := [d1, d2] }
  | _ => none }
def suffixFirstRow : OpenClaim := { program := "ytclgeomjnpejmaa", sum := "2e57f6b9c30ce9efefb59d07ff07f048b24d038ed86ae2b33038958c90f087c6", func := "haystack/haystacklaw17.SuffixFirst", spec := "suffixFirst", inPlace := ["internal/bytealg.Compare"], unfollowed := true, recurses := true, apart := false }
def SuffixFirstSaid : Prop := suffixFirstRow.holds Try.pinned (OpenSpec.ofChange suffixFirstSpec)

/-- ITS FALSE NEIGHBOUR: 'it returns false'. Refute it at one input. -/
def suffixFirstWrong : ChangeSpec := { name := "suffixFirst", fn := fun _ => fun
  | [d1, d2] => { results := [.lit (.bool false)], args := [d1, d2] }
  | _ => none }
def SuffixFirstWrongFalsely : Prop := suffixFirstRow.holds Try.pinned (OpenSpec.ofChange suffixFirstWrong)

/-- 'haystacklaw17.SuffixTells': WHATEVER THE INPUT: true; the input reads as it did. -/
def suffixTellsSpec : ChangeSpec := { name := "suffixTells", fn := fun _ => fun
  | [d1, d2, d3, d4] => { results := [.lit (.bool true)], args := [d1, d2, d3, d4] }
  | _ => none }
def suffixTellsRow : OpenClaim := { program := "ytclgeomjnpejmaa", sum := "2e57f6b9c30ce9efefb59d07ff07f048b24d038ed86ae2b33038958c90f087c6", func := "haystack/haystacklaw17.SuffixTells", spec := "suffixTells", inPlace := ["internal/bytealg.Compare"], unfollowed := true, recurses := true, apart := false }
def SuffixTellsSaid : Prop := suffixTellsRow.holds Try.pinned (OpenSpec.ofChange suffixTellsSpec)

/-- ITS FALSE NEIGHBOUR: 'it returns false'. Refute it at one input. -/
def suffixTellsWrong : ChangeSpec := { name := "suffixTells", fn := fun _ => fun
  | [d1, d2, d3, d4] => { results := [.lit (.bool false)], args := [d1, d2, d3, d4] }
  | _ => none }
def SuffixTellsWrongFalsely : Prop := suffixTellsRow.holds Try.pinned (OpenSpec.ofChange suffixTellsWrong)

/-- 'haystacklaw17.SuffixOrder': WHATEVER THE INPUT: true; the input reads as it did. -/
def suffixOrderSpec : ChangeSpec := { name := "suffixOrder", fn := fun _ => fun
  | [d] => { results := [.lit (.bool true)], args := [d] }
  | _ => none }
def suffixOrderRow : OpenClaim := { program := "ytclgeomjnpejmaa", sum := "2e57f6b9c30ce9efefb59d07ff07f048b24d038ed86ae2b33038958c90f087c6", func := "haystack/haystacklaw17.SuffixOrder", spec := "suffixOrder", inPlace := ["internal/bytealg.Compare"], unfollowed := true, recurses := true, apart := false }
def SuffixOrderSaid : Prop := suffixOrderRow.holds Try.pinned (OpenSpec.ofChange suffixOrderSpec)

/-- ITS FALSE NEIGHBOUR: 'it returns false'. Refute it at one input. -/
def suffixOrderWrong : ChangeSpec := { name := "suffixOrder", fn := fun _ => fun
  | [d] => { results := [.lit (.bool false)], args := [d] }
  | _ => none }
def SuffixOrderWrongFalsely : Prop := suffixOrderRow.holds Try.pinned (OpenSpec.ofChange suffixOrderWrong)

/-- 'haystacklaw17.SuffixLess': WHATEVER THE INPUT: true; the input reads as it did. -/
def suffixLessSpec : ChangeSpec := { name := "suffixLess", fn := fun _ => fun
  | [d1, d2, d3] => { results := [.lit (.bool true)], args := [d1, d2, d3] }
  | _ => none }
def suffixLessRow : OpenClaim := { program := "ytclgeomjnpejmaa", sum := "2e57f6b9c30ce9efefb59d07ff07f048b24d038ed86ae2b33038958c90f087c6", func := "haystack/haystacklaw17.SuffixLess", spec := "suffixLess", inPlace := ["internal/bytealg.Compare"], unfollowed := true, recurses := true, apart := false }
def SuffixLessSaid : Prop := suffixLessRow.holds Try.pinned (OpenSpec.ofChange suffixLessSpec)

/-- ITS FALSE NEIGHBOUR: 'it returns false'. Refute it at one input. -/
def suffixLessWrong : ChangeSpec := { name := "suffixLess", fn := fun _ => fun
  | [d1, d2, d3] => { results := [.lit (.bool false)], args := [d1, d2, d3] }
  | _ => none }
def SuffixLessWrongFalsely : Prop := suffixLessRow.holds Try.pinned (OpenSpec.ofChange suffixLessWrong)

/-- 'haystacklaw17.SuffixBack': WHATEVER THE INPUT: true; the input reads as it did. -/
def suffixBackSpec : ChangeSpec := { name := "suffixBack", fn := fun _ => fun
  | [d] => { results := [.lit (.bool true)], args := [d] }
  | _ => none }
def suffixBackRow : OpenClaim := { program := "ytclgeomjnpejmaa", sum := "2e57f6b9c30ce9efefb59d07ff07f048b24d038ed86ae2b33038958c90f087c6", func := "haystack/haystacklaw17.SuffixBack", spec := "suffixBack", inPlace := ["internal/bytealg.Compare"], unfollowed := true, recurses := true, apart := false }
def SuffixBackSaid : Prop := suffixBackRow.holds Try.pinned (OpenSpec.ofChange suffixBackSpec)

/-- ITS FALSE NEIGHBOUR: 'it returns false'. Refute it at one input. -/
def suffixBackWrong : ChangeSpec := { name := "suffixBack", fn := fun _ => fun
  | [d] => { results := [.lit (.bool false)], args := [d] }
  | _ => none }
def SuffixBackWrongFalsely : Prop := suffixBackRow.holds Try.pinned (OpenSpec.ofChange suffixBackWrong)

/- THE SECOND FORM. 'bulk': how many values and letters a reading holds, each counted each time it is reached (what is shared counts as often as it is met; a slice's spare places count too). A statement '..UptoSaid' is the law's where the arguments, and the package variables that the reading takes, are together of bulk at most 1048576: NARROWER than '..Said'. Prove '..Said' where nothing that the law and all that it calls make is longer than what came in: it says more and counts as full. Else prove '..UptoSaid'. A law counts once. -/
mutual
def uptoBulk {H : Type} : DataW H → Nat
  | .lit (.string bytes) => bytes.length + 1
  | .lit _ => 1
  | .nil => 1
  | .ptr d => uptoBulk d + 1
  | .slice elems spare => uptoBulkAll elems + uptoBulkAll spare + 1
  | .agg parts => uptoBulkAll parts + 1
  | .iface _ d => uptoBulk d + 1
  | .map entries => uptoBulkEntries entries + 1
  | .held _ => 1
def uptoBulkAll {H : Type} : List (DataW H) → Nat
  | [] => 0
  | d :: r => uptoBulk d + uptoBulkAll r
def uptoBulkEntries {H : Type} : List (Lit × DataW H) → Nat
  | [] => 0
  | x :: r => uptoBulkEntry x + uptoBulkEntries r
def uptoBulkEntry {H : Type} : Lit × DataW H → Nat
  | (.string bytes, d) => bytes.length + uptoBulk d + 1
  | (_, d) => uptoBulk d + 1
 end
def uptoSmall : (H : Type) → List (DataW H) → Bool := fun _ ds => decide (uptoBulkAll ds ≤ 1048576)
def OpenSpec.upto (s : _root_.Go.ChangeSpec) : _root_.Go.OpenSpec := { _root_.Go.OpenSpec.ofChange s with cond := some uptoSmall }

/-- 'haystacklaw17.SuffixFirst', WHERE WHAT IT READS IS OF BULK AT MOST 1048576: true; the input reads as it did. -/
def suffixFirstUptoRow : OpenClaim := { program := "ytclgeomjnpejmaa", sum := "2e57f6b9c30ce9efefb59d07ff07f048b24d038ed86ae2b33038958c90f087c6", func := "haystack/haystacklaw17.SuffixFirst", spec := "suffixFirst", inPlace := ["internal/bytealg.Compare"], unfollowed := true, recurses := true, apart := false, narrowed := true }
def SuffixFirstUptoSaid : Prop := suffixFirstUptoRow.holds Try.pinned (OpenSpec.upto suffixFirstSpec)

/-- 'haystacklaw17.SuffixTells', WHERE WHAT IT READS IS OF BULK AT MOST 1048576: true; the input reads as it did. -/
def suffixTellsUptoRow : OpenClaim := { program := "ytclgeomjnpejmaa", sum := "2e57f6b9c30ce9efefb59d07ff07f048b24d038ed86ae2b33038958c90f087c6", func := "haystack/haystacklaw17.SuffixTells", spec := "suffixTells", inPlace := ["internal/bytealg.Compare"], unfollowed := true, recurses := true, apart := false, narrowed := true }
def SuffixTellsUptoSaid : Prop := suffixTellsUptoRow.holds Try.pinned (OpenSpec.upto suffixTellsSpec)

/-- 'haystacklaw17.SuffixOrder', WHERE WHAT IT READS IS OF BULK AT MOST 1048576: true; the input reads as it did. -/
def suffixOrderUptoRow : OpenClaim := { program := "ytclgeomjnpejmaa", sum := "2e57f6b9c30ce9efefb59d07ff07f048b24d038ed86ae2b33038958c90f087c6", func := "haystack/haystacklaw17.SuffixOrder", spec := "suffixOrder", inPlace := ["internal/bytealg.Compare"], unfollowed := true, recurses := true, apart := false, narrowed := true }
def SuffixOrderUptoSaid : Prop := suffixOrderUptoRow.holds Try.pinned (OpenSpec.upto suffixOrderSpec)

/-- 'haystacklaw17.SuffixLess', WHERE WHAT IT READS IS OF BULK AT MOST 1048576: true; the input reads as it did. -/
def suffixLessUptoRow : OpenClaim := { program := "ytclgeomjnpejmaa", sum := "2e57f6b9c30ce9efefb59d07ff07f048b24d038ed86ae2b33038958c90f087c6", func := "haystack/haystacklaw17.SuffixLess", spec := "suffixLess", inPlace := ["internal/bytealg.Compare"], unfollowed := true, recurses := true, apart := false, narrowed := true }
def SuffixLessUptoSaid : Prop := suffixLessUptoRow.holds Try.pinned (OpenSpec.upto suffixLessSpec)

/-- 'haystacklaw17.SuffixBack', WHERE WHAT IT READS IS OF BULK AT MOST 1048576: true; the input reads as it did. -/
def suffixBackUptoRow : OpenClaim := { program := "ytclgeomjnpejmaa", sum := "2e57f6b9c30ce9efefb59d07ff07f048b24d038ed86ae2b33038958c90f087c6", func := "haystack/haystacklaw17.SuffixBack", spec := "suffixBack", inPlace := ["internal/bytealg.Compare"], unfollowed := true, recurses := true, apart := false, narrowed := true }
def SuffixBackUptoSaid : Prop := suffixBackUptoRow.holds Try.pinned (OpenSpec.upto suffixBackSpec)

end Rows
end Go.Proofs.Ytclgeomjnpejmaa
