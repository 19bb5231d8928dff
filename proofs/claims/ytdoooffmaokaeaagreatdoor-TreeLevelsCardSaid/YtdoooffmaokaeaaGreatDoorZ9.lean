/- Part 9 of what this claim leans on: YLayW, TW. -/
import Derived.Shelf.Strconv.Itoa0
import Derived.Shelf.Spec.TrailingZeros
import Derived.Test.YtdoooffmaokaeaaGreatDoorProg
import Derived.Test.YtdoooffmaokaeaaGreatDoorZ8
/-
  DERIVED: THE SHELF's CONTRACTS AT THIS DUMP, IN PLAIN WORDS (tools/lay-plain.mjs out of 'TryShelf.lean', which tools/lay-shelf.mjs wrote): THE SAME DECLARATIONS UNDER THE SAME NAMES: 'import', 'namespace', 'open', 'def', 'theorem' AND NOTHING ELSE: no command of the shelf's: FOR A HAND-IN. Each laying: the table of numbers ('.._ren') and one theorem, a field a fact of the dump's own or the kernel's comparison; each contract: ONE APPLICATION.
-/
section
set_option linter.unusedVariables false
set_option linter.unusedSimpArgs false
set_option linter.unusedSectionVars false
namespace Go.Proofs
open Go.Shelf
def Tryz.len64L_ren : Go.Shelf.Ren := ⟨fun | 129 => 180 | n => n, fun | 53 => 95 | 3 => 3 | 4 => 4 | 46 => 30 | 5 => 5 | 9 => 9 | n => n, fun | n => n⟩
theorem Tryz.len64L : Go.Proofs.Lays.n129 Tryz.prog Tryz.len64L_ren := {
  mixed := by kernel_rfl
  f129 := Tryz.func180.trans (congrArg some (by kernel_rfl))
  t3 := Tryz.underlying3
  a3 := Tryz.isAgg3
  z3 := Tryz.sizeOf3
  v3 := Tryz.zeroValue3
  t4 := Tryz.underlying4
  a4 := Tryz.isAgg4
  z4 := Tryz.sizeOf4
  v4 := Tryz.zeroValue4
  t5 := Tryz.underlying5
  a5 := Tryz.isAgg5
  z5 := Tryz.sizeOf5
  v5 := Tryz.zeroValue5
  t9 := Tryz.underlying9
  a9 := Tryz.isAgg9
  z9 := Tryz.sizeOf9
  v9 := Tryz.zeroValue9
  t46 := Tryz.underlying30
  a46 := Tryz.isAgg30
  z46 := Tryz.sizeOf30
  v46 := Tryz.zeroValue30
  t53 := Tryz.underlying95
  a53 := Tryz.isAgg95
  z53 := Tryz.sizeOf95
  v53 := Tryz.zeroValue95 }
def Tryz.tz64L_ren : Go.Shelf.Ren := ⟨fun | 29 => 168 | n => n, fun | 22 => 95 | 3 => 3 | 4 => 4 | 25 => 30 | 54 => 214 | 0 => 0 | 5 => 5 | n => n, fun | 1 => 0 | n => n⟩
theorem Tryz.tz64L : Go.Proofs.Lays7.n29 Tryz.prog Tryz.tz64L_ren := {
  mixed := by kernel_rfl
  f29 := Tryz.func168.trans (congrArg some (by kernel_rfl))
  t0 := Tryz.underlying0
  a0 := Tryz.isAgg0
  z0 := Tryz.sizeOf0
  v0 := Tryz.zeroValue0
  i0 := by kernel_rfl
  t3 := Tryz.underlying3
  a3 := Tryz.isAgg3
  z3 := Tryz.sizeOf3
  v3 := Tryz.zeroValue3
  i3 := by kernel_rfl
  t4 := Tryz.underlying4
  a4 := Tryz.isAgg4
  z4 := Tryz.sizeOf4
  v4 := Tryz.zeroValue4
  i4 := by kernel_rfl
  t5 := Tryz.underlying5
  a5 := Tryz.isAgg5
  z5 := Tryz.sizeOf5
  v5 := Tryz.zeroValue5
  i5 := by kernel_rfl
  t22 := Tryz.underlying95
  a22 := Tryz.isAgg95
  z22 := Tryz.sizeOf95
  v22 := Tryz.zeroValue95
  i22 := by kernel_rfl
  t25 := Tryz.underlying30
  a25 := Tryz.isAgg30
  z25 := Tryz.sizeOf30
  v25 := Tryz.zeroValue30
  i25 := by kernel_rfl
  t54 := Tryz.underlying214
  a54 := Tryz.isAgg214
  z54 := Tryz.sizeOf214
  g1 := by kernel_rfl }
end Go.Proofs
end
/- The program: words by the library's tables. -/
section
set_option linter.unusedVariables false
set_option linter.unusedSimpArgs false
set_option linter.unusedSectionVars false
namespace Go.Proofs.E
open Go Go.Proofs.MV Go.Shelf
set_option linter.unusedVariables false
set_option maxRecDepth 10000
variable {L : Nat → (Nat → Option Obj) → Prop}
/-- A function of one number whose contract lies in the kit. -/
theorem pure_of_calls {P : Program} {f : FuncId} {fn : Func} {k k' : IntKind} {x y : Int} (hf : P.funcs[f]? = some fn) (hb : fn.body.isNone = false) (hname : (fn.name == "runtime.NumGoroutine") = false)
    (h : ∀ n c (w : World), L n c → (∀ b, b < n → w.heap[b]? = c b) → Calls P f #[.int k x] w fun e w' => e = .returned (.int k' y) ∧ w' = w) : Pure P L f [.i k x] (.i k' y) := by
  refine ⟨closed, closed, fun A hL w m vs hH hargs => ⟨fn, hf, hname, .inl ⟨hb, ?_⟩⟩⟩
  have hv : vs = #[.int k x] := by
    obtain ⟨h1, h2⟩ := hargs
    apply Array.ext (by simpa using h1)
    intro j a b
    have hj : j = 0 := by simp at b; exact b
    subst hj
    have := h2 0 (.i k x) rfl
    cases hr : vs.getD 0 undef <;> rw [hr] at this <;> cases this
    rw [Array.getD_eq_getD_getElem?, Array.getElem?_eq_getElem a] at hr
    simpa using hr
  subst hv
  refine (h A.n A.c w hL hH.amb).mono fun e w' ⟨h1, h2⟩ => ?_
  subst h2
  exact ⟨_, h1, .i k' y, [], m, ⟨1, rfl⟩, ⟨.i _ _, hH, Keep.refl _ _ _⟩⟩
def TabL (n : Nat) (c : Nat → Option Obj) : Prop := ∀ w : World, (∀ b, b < n → w.heap[b]? = c b) → Go.Proofs.TabAt (Tryz.tz64L_ren.g 1) Lib.deBruijn64tab w
theorem b_tz (hT : ∀ n c, L n c → TabL n c) (x : Nat) (hx : x < 2 ^ 64) : Pure Tryz.prog L 168 [.i .u64 x] (.i .i64 (Lib.ctz 64 x : Nat)) :=
  pure_of_calls Tryz.func168 rfl (by kernel_rfl) fun n c w hl hw => (Any7.bits_TrailingZeros64 Tryz.tz64L x hx w (fun _ => hT n c hl w hw)).mono fun _ _ ⟨a, b⟩ => ⟨a, b⟩
theorem b_len64 (x : Nat) (hx : x < 2 ^ 64) : Pure Tryz.prog L 180 [.i .u64 x] (.i .i64 (Lib.bitLen x : Nat)) :=
  pure_of_calls Tryz.func180 rfl (by kernel_rfl) fun n c w hl hw => (Any.bits_Len64 Tryz.len64L (x : Int) w (by omega) (by omega)).mono fun _ _ ⟨a, b⟩ => ⟨a, b⟩
theorem b_len (x : Nat) (hx : x < 2 ^ 64) : Pure Tryz.prog L 146 [.i .u64 x] (.i .i64 (Lib.bitLen x : Nat)) := by
  refine pure_of_W Tryz.func146 rfl rfl (by kernel_rfl) [] closed (.i _ _) fun A hL => ?_
  unfold Tryz.f146
  refine go ?_
  refine (b_len64 x hx).does hL (go ?_)
  exact fin_
theorem b_select (hT : ∀ n c, L n c → TabL n c) (x k : Nat) (hx : x < 2 ^ 64) (hk : k < MP.pop 64 x) : Pure Tryz.prog L 132 [.i .u64 x, .i .i64 k] (.i .i64 (MP.sel x k : Nat)) := by
  refine pure_of_W Tryz.func132 rfl rfl (by kernel_rfl) [] closed (.i _ _) fun A hL => ?_
  have hp := MB.pop_le x 64
  unfold Tryz.f132
  refine go ?_
  refine (b_pop x hx).does hL (go ?_)
  refine loop_ (fun j : Nat => ⟨[(0, .i .u64 (MP.clr x j : Nat)), (13, .i .i64 k), (14, .i .i64 j)], []⟩) (fun j => j ≤ k) (fun j => k - j) 0 (Nat.zero_le _) (le_slots (Nat.zero_le _) (go ?_)) fun j hj => go ?_
  · exact rfl
  refine ⟨fun h1 => go ?_, fun h1 => go ?_⟩
  · have s1 := (MP.sel_spec x j hx (by omega)).1
    have s2 := MP.clr_le x j
    have s3 : (MP.clr x j &&& (MP.clr x j - 1)) = MP.clr x (j + 1) := rfl
    refine gox ?_
    exact ⟨j + 1, by omega, by omega, le_slots (Nat.zero_le _) (go trivial)⟩
  · obtain rfl : j = k := by omega
    have s2 := MP.clr_le x j
    refine (b_tz hT (MP.clr x j) (by omega)).does hL (go ?_)
    unfold MP.sel
    exact fin_
end Go.Proofs.E
end
