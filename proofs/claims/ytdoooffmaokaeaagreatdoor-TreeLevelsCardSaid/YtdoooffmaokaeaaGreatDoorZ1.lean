/- Part 1 of what this claim leans on: E1, E2, E3, E4, E5, E6, E7, E8. -/
import Derived.Tactics
import Derived.Orders
import Derived.Below
import Derived.WalkMore
import Derived.Laws.Entries
import Derived.Laws.Append
import Derived.Laws.AppendOwn
import Derived.Laws.CopyRow
import Derived.Laws.Rows
import Derived.StillTail
import Derived.Laws.StructEq
import Derived.Laws.IdiomStrings
import Derived.Laws.BytesArg
/- A machine of values: what a walk computes with, no memory in it. Of no function. -/
section
set_option linter.unusedVariables false
set_option linter.unusedSimpArgs false
set_option linter.unusedSectionVars false
namespace Go.Proofs.E
open Go
set_option linter.unusedVariables false
/-- Values without addresses: p, o point into memory of the call's own (block, age, place); r, sl are only read. -/
inductive V where
  | any
  | bq
  | b (x : Bool)
  | i (k : IntKind) (n : Int)
  | s (x : ByteArray)
  | np
  | p (b g off : Nat)
  | r (cs : List V) (off : Nat)
  | ns
  | sl (f : Bool) (len : Nat) (cs : List V)
  | o (b g off len : Nat)
  | f (fn : Fn) (a c : List V)
  | nf
  | iv (t : TypeId) (v : V)
  | ni
  | agg (cs : List V)
  | tup (vs : List V)
  | nm
  | m (b g : Nat)
  | mr (es : List (V × V))
  deriving Inhabited
def V.one : V → Bool
  | .any | .agg _ | .tup _ => false
  | _ => true
/-- The cells of what may be stored. -/
def V.cells : V → Option (List V)
  | .agg cs => if cs.all V.one then some cs else none
  | .any | .tup _ => none
  | v => some [v]
structure Blk where
  t : TypeId
  g : Nat
  cs : List V
  live : Bool
abbrev Heap := List Blk
def Heap.at (H : Heap) (b g : Nat) : Option Blk :=
  match H[b]? with
  | some k => if k.live = true ∧ k.g = g then some k else none
  | none => none
/-- A value of the program's text. -/
def vOf : Value → V
  | .bool b => .b b
  | .int k n => .i k n
  | .string s => .s s
  | .pointer none => .np
  | .slice none 0 0 => .ns
  | .map none => .nm
  | .nilFunc => .nf
  | .nilIface => .ni
  | _ => .any
section
variable (P : Program)
def aggT (t : TypeId) : Option Bool := (P.underlying t).map fun | .struct _ | .array _ _ => true | _ => false
def szT (t : TypeId) : Option Nat := (P.info? t).map (·.size)
def byT (t : TypeId) : Option Nat := (P.info? t).map (·.bytes)
def elT (t : TypeId) : Option TypeId := (P.underlying t).bind fun | .slice e => some e | _ => none
def arT (t : TypeId) : Option (Nat × TypeId) := (P.underlying t).bind fun | .array n e => some (n, e) | _ => none
def fdT (t : TypeId) (f : Nat) : Option (Nat × TypeId) := (P.underlying t).bind fun | .struct fs => (fs[f]?).bind fun x => if ((P.info? x.type).map (·.size)).getD 0 = 0 then none else some (x.offset, x.type) | _ => none
def strT (t : TypeId) : Bool := match P.underlying t with | some .string => true | _ => false
def bolT (t : TypeId) : Bool := match P.underlying t with | some .bool => true | _ => false
def ifT (t : TypeId) : Bool := match P.underlying t with | some (.interface _) => true | _ => false
def ikT (t : TypeId) : Option IntKind := (P.underlying t).bind fun | .int k => some k | _ => none
def zrT (t : TypeId) : Option (List V) := (P.info? t).bind fun i => i.zero.map fun z => z.cells.toList.map vOf
def gV (cs : List V) (off : Nat) : V := cs.getD off .any
/-- A value that lies in cells. -/
def ldV (t : TypeId) (cs : List V) (off : Nat) : Option (Prop × V) :=
  match aggT P t, szT P t with
  | some true, some n => some (off + n ≤ cs.length, .agg ((cs.drop off).take n))
  | some false, some _ => some (off < cs.length, gV cs off)
  | _, _ => none
def spl (cs : List V) (off : Nat) (vs : List V) : List V :=
  match vs with
  | [v] => cs.set off v
  | _ => cs.take off ++ vs ++ cs.drop (off + vs.length)
def fillV (place : Nat → Option (Nat × Nat)) : List V → List (Nat × V) → Option (List V)
  | cs, [] => some cs
  | cs, (i, v) :: rest =>
    match place i, v.cells with
    | some (off, n), some vs => if vs.length = n ∧ off + n ≤ cs.length then fillV place (spl cs off vs) rest else none
    | _, _ => none
def plcT (t : TypeId) : Option (List (Nat × Nat)) := (P.underlying t).bind fun | .struct fs => fs.toList.mapM (fun f => (P.info? f.type).map fun i => (f.offset, i.size)) | _ => none
def binI (op : BinOp) (k : IntKind) (x y : Int) : Option (Prop × V) :=
  match op with
  | .add => some (True, .i k (k.wrap (x + y)))
  | .sub => some (True, .i k (k.wrap (x - y)))
  | .mul => some (True, .i k (k.wrap (x * y)))
  | .quo => some (y ≠ 0, .i k (k.wrap (x.tdiv y)))
  | .rem => some (y ≠ 0, .i k (x.tmod y))
  | .lss => some (True, .b (decide (x < y)))
  | .gtr => some (True, .b (decide (x > y)))
  | .leq => some (True, .b (decide (x ≤ y)))
  | .geq => some (True, .b (decide (x ≥ y)))
  | .eql => some (True, .b (x == y))
  | .neq => some (True, .b (x != y))
  | .and | .or | .xor | .andNot => some (True, .i k (bits op k x y))
  | _ => none
def shiftB : BinOp → Bool
  | .shl | .shr => true
  | _ => false
def shV (op : BinOp) (k : IntKind) (x y : Int) : V := if op = .shl then .i k (k.wrap (x * 2 ^ (min y.toNat k.bits))) else .i k (x.fdiv (2 ^ (min y.toNat k.bits)))
def boV (op : BinOp) (t : TypeId) (x y : Bool) : Option (Prop × V) :=
  match op with
  | .eql => some (bolT P t = true, .b (x == y))
  | .neq => some (bolT P t = true, .b (!(x == y)))
  | _ => none
/-- Nothing, compared with the literal nil. -/
def nilB (op : BinOp) (t : TypeId) (x : Bool) : Option (Prop × V) :=
  match op with
  | .eql => some (ifT P t = true, .b x)
  | .neq => some (ifT P t = true, .b (!x))
  | _ => none
/-- Structs that are compared: their fields. -/
def eqT (t : TypeId) : Option (List (Nat × TypeId)) :=
  match P.underlying t with
  | some (.struct fs) => if (fs.toList.all fun f => f.name != "_") = true ∧ P.stoodInHeld t = false ∧ P.eqGuardType P.depth t = false then some (fs.toList.map fun f => (f.offset, f.type)) else none
  | _ => none
def eqF : List (Nat × TypeId) → List V → List V → Option Bool
  | [], _, _ => some true
  | (off, ty) :: r, xs, ys =>
    match gV xs off, gV ys off with
    | .i k a, .i k' b => if k = k' ∧ ikT P ty = some k then (eqF r xs ys).map (decide (a = b) && ·) else none
    | .b a, .b b => if bolT P ty = true then (eqF r xs ys).map ((a == b) && ·) else none
    | _, _ => none
def aggB (op : BinOp) (t : TypeId) (xs ys : List V) : Option (Prop × V) :=
  match eqT P t with
  | some fs => match eqF P fs xs ys with
    | some r => (match op with
      | .eql => some (True, .b r)
      | .neq => some (True, .b (!r))
      | _ => none)
    | none => none
  | none => none
/-- A slice, compared with the literal nil. -/
def nilS (op : BinOp) (t : TypeId) (n : Nat) : Option (Prop × V) :=
  match op with
  | .eql => some ((elT P t).isSome = true, if n = 0 then .bq else .b false)
  | .neq => some ((elT P t).isSome = true, if n = 0 then .bq else .b true)
  | _ => none
/-- Strings. -/
def strO (op : BinOp) (a b : ByteArray) : Option (Prop × V) :=
  match op with
  | .add => some (((a.size + b.size : Nat) : Int) ≤ IntKind.i64.max, .s (a ++ b))
  | .eql => some (True, .b (a.toList == b.toList))
  | .neq => some (True, .b (!(a.toList == b.toList)))
  | .lss => some (True, .b (Op.bytesLess a.toList b.toList))
  | .leq => some (True, .b (Op.bytesLess a.toList b.toList || a.toList == b.toList))
  | .gtr => some (True, .b (!(Op.bytesLess a.toList b.toList || a.toList == b.toList)))
  | .geq => some (True, .b (!Op.bytesLess a.toList b.toList))
  | _ => none
def isC : Operand → Bool
  | .const _ => true
  | _ => false
def binV (op : BinOp) (t : TypeId) (c : Bool) (a b : V) : Option (Prop × V) :=
  match a, b with
  | .ni, .ni => if c = true then nilB P op t true else none
  | .iv _ _, .ni => nilB P op t false
  | .i k x, .i k' y => if shiftB op = true then some (0 ≤ y, shV op k x y) else (binI op k x y).map fun (c, v) => (k = k' ∧ c, v)
  | .b x, .b y => boV P op t x y
  | .agg xs, .agg ys => aggB P op t xs ys
  | .s x, .s y => strO op x y
  | .sl _ n _, .ns => nilS P op t n
  | _, _ => none
def unV (op : UnOp) (a : V) : Option V :=
  match op, a with
  | .neg, .i k n => some (.i k (k.wrap (0 - n)))
  | .xor, .i k n => some (.i k (bits .xor k (if k.signed then -1 else k.max) n))
  | .not, .b b => some (.b (!b))
  | _, _ => none
def cvV (s t : TypeId) (a : V) : Option V :=
  match aggT P s, ikT P t, a with
  | some _, some k, .i _ n => some (.i k (k.wrap n))
  | _, _, _ => none
def intV : V → Option Int
  | .i _ n => some n
  | _ => none
/-- low, high of a slice of n, of m at most. -/
def loV : Option V → Option Int
  | none => some 0
  | some (.i _ n) => some n
  | _ => none
def hiV (n : Nat) : Option V → Option Int
  | none => some n
  | some (.i _ n) => some n
  | _ => none
def slV (H : Heap) (t : TypeId) (x : V) (lo hi mx : Option V) : Option (Prop × V) :=
  match mx, loV lo with
  | none, some l =>
    match elT P t, arT P t, x with
    | some e, _, .sl f n cs =>
      match szT P e, hiV n hi with
      | some z, some h => some (0 ≤ l ∧ l ≤ h ∧ h ≤ n ∧ cs.length = n * z, .sl false (h.toNat - l.toNat) ((cs.drop (l.toNat * z)).take ((h.toNat - l.toNat) * z)))
      | _, _ => none
    | some e, _, .o b g off n =>
      match szT P e, hiV n hi, H.at b g with
      | some z, some h, some k => some (k.t = e ∧ 0 ≤ l ∧ l ≤ h ∧ h ≤ n ∧ 0 < z, .o b g (off + l.toNat * z) (h.toNat - l.toNat))
      | _, _, _ => none
    | some e, _, .ns =>
      match szT P e, hiV 0 hi with
      | some z, some h => some (l = 0 ∧ h = 0, .ns)
      | _, _ => none
    | none, some (n, e), .p b g off =>
      match szT P e, hiV n hi, H.at b g with
      | some z, some h, some k => some (0 ≤ l ∧ l ≤ h ∧ h ≤ n ∧ z = 1 ∧ (arT P k.t).isSome = true ∧ n ≤ 140737488355328 ∧ off + n ≤ k.cs.length, .o b g (off + l.toNat) (h.toNat - l.toNat))
      | _, _, _ => none
    | _, _, _ => none
  | _, _ => none
/-- What there is to append or to copy: how many, and the cells. -/
def srcV (z : Nat) (H : Heap) : V → Option (Prop × Nat × List V)
  | .ns => some (True, 0, [])
  | .sl _ n cs => some (n * z ≤ cs.length, n, cs.take (n * z))
  | .o b g off n => (H.at b g).map fun k => (off + n * z ≤ k.cs.length, n, (k.cs.drop off).take (n * z))
  | .s x => if z = 1 then some (True, x.size, x.data.toList.map fun c => .i .u8 c.toNat) else none
  | _ => none
def u8V : V → Bool
  | .i .u8 _ => true
  | _ => false
def byV : V → UInt8
  | .i _ n => UInt8.ofNat n.toNat
  | _ => 0
def bytT (t : TypeId) : Bool := match elT P t with | some e => (match ikT P e with | some .u8 => true | _ => false) | none => false
/-- Bytes of a literal, all of them constants: memory of the call's own. -/
def litO (t : TypeId) (len : Nat) (ps : List (Nat × Operand)) : Bool := bytT P t && decide (0 < len) && ps.all fun p => isC p.2
/-- Bytes that are converted to their own type are only read from here on. -/
def mrkV (H : Heap) (t : TypeId) (x : V) : Option (Prop × V × Heap) :=
  match x with
  | .o b g 0 n => (H.at b g).map fun k => (k.cs.length = n ∧ 0 < n ∧ elT P t = some k.t, .sl false n k.cs, H.set b { k with live := false })
  | _ => none
/-- Bytes of a string, a string of bytes. -/
def cvS (H : Heap) (s t : TypeId) (x : V) : Option (Prop × V × Heap) :=
  match strT P s, x with
  | true, .s b => if bytT P t = true then some (True, .sl false b.size (b.data.toList.map fun c => .i .u8 c.toNat), H) else none
  | false, .s _ => none
  | false, x => if bytT P s = true ∧ strT P t = true then (srcV 1 H x).map fun (c, n, vs) => (c ∧ vs.all u8V = true, .s ⟨(vs.map byV).toArray⟩, H) else if s = t ∧ bytT P s = true then mrkV P H t x else none
  | _, _ => none
def srcT (t : TypeId) : Bool := match P.underlying t with | some (.slice _) | some .string => true | _ => false
def lnV (t : TypeId) : V → Option (Prop × Int)
  | .sl _ n _ => (elT P t).map fun _ => (True, n)
  | .o _ _ _ n => (elT P t).map fun _ => (True, n)
  | .ns => (elT P t).map fun _ => (True, 0)
  | .s x => some (strT P t = true, x.size)
  | .agg cs => (arT P t).map fun (n, _) => (True, n)
  | _ => none
def apV (t u : TypeId) (s x : V) (H : Heap) : Option (Prop × V × Heap) :=
  match elT P t, srcT P u with
  | some e, true =>
    match szT P e, byT P e, zrT P e with
    | some z, some y, some zs =>
      match srcV z H x with
      | some (c, n, vs) =>
        match s with
        | .o b g 0 len => (H.at b g).map fun k => (c ∧ vs.all V.one = true ∧ zs.length = z ∧ 0 < z ∧ (k.t = e ∧ arT P e = none) ∧ k.cs.length = len * z ∧ (len + n) * y ≤ 140737488355328 ∧ len + n ≤ 140737488355328,
            .o b (g + 1) 0 (len + n), H.set b ⟨e, g + 1, k.cs ++ vs, true⟩)
        | .ns => some (c ∧ vs.all V.one = true ∧ zs.length = z ∧ 0 < z ∧ n * y ≤ 140737488355328 ∧ n ≤ 140737488355328,
            .o H.length 0 0 n, H ++ [⟨e, 0, vs, true⟩])
        | .sl true len cs => if n = 0 then some (c, .sl true len cs, H) else some (c ∧ vs.all V.one = true ∧ zs.length = z ∧ 0 < z ∧ cs.length = len * z ∧ cs.all V.one = true ∧ 0 < n ∧ (len + n) * y ≤ 140737488355328 ∧ len + n ≤ 140737488355328,
            .o H.length 0 0 (len + n), H ++ [⟨e, 0, cs ++ vs, true⟩])
        | _ => none
      | none => none
    | _, _, _ => none
  | _, _ => none
def cpV (t : TypeId) (d x : V) (H : Heap) : Option (Prop × V × Heap) :=
  match d, elT P t with
  | .o b g off n, some e =>
    match szT P e with
    | some z =>
      match srcV z H x, H.at b g with
      | some (c, m, vs), some k => some (c ∧ vs.all V.one = true ∧ off + n * z ≤ k.cs.length, .i .i64 (min m n : Nat), H.set b { k with cs := spl k.cs off (vs.take (min m n * z)) })
      | _, _ => none
    | none => none
  | _, _ => none
def biV (b : Builtin) (ts : List TypeId) (as : List V) (H : Heap) : Option (Prop × V × Heap) :=
  match b, as, ts with
  | .len, [x], [t] => (lnV P t x).map fun (c, n) => (c, .i .i64 n, H)
  | .max, [.i k x, .i _ y], _ => some (True, .i k (if y > x then y else x), H)
  | .min, [.i k x, .i _ y], _ => some (True, .i k (if y < x then y else x), H)
  | .append, [s, x], [t, u] => apV P t u s x H
  | .copy, [d, x], t :: _ => cpV P t d x H
  | _, _, _ => none
/-- One operation, but for calls of functions: what must hold, what it yields, the memory behind it. -/
def stp (ρ : Operand → V) (o : Op) (H : Heap) : Option (Prop × V × Heap) :=
  match o with
  | .move x | .assign x => some (True, ρ x, H)
  | .pick c a b => match ρ c with
    | .b c => some (True, if c = true then ρ a else ρ b, H)
    | _ => none
  | .alloc t => (zrT P t).bind fun z => if z.all V.one = true then some (True, .p H.length 0 0, H ++ [⟨t, 0, z, true⟩]) else none
  | .box t x => (ρ x).cells.map fun cs => (True, .p H.length 0 0, H ++ [⟨t, 0, cs, true⟩])
  | .build t ps =>
    match zrT P t, arT P t, plcT P t with
    | some z, none, some pl => (fillV (fun i => pl[i]?) z (ps.toList.map fun (i, x) => (i, ρ x))).map fun cs => (True, .agg cs, H)
    | some z, some (_, e), _ => (szT P e).bind fun n => (fillV (fun i => some (i * n, n)) z (ps.toList.map fun (i, x) => (i, ρ x))).map fun cs => (True, .agg cs, H)
    | _, _, _ => none
  | .buildSlice t len ps =>
    match elT P t with
    | some e => match szT P e, zrT P e with
      | some n, some z => (fillV (fun i => some (i * n, n)) ((List.replicate len z).flatten) (ps.toList.map fun (i, x) => (i, ρ x))).map fun cs => (z.length = n ∧ 0 < n ∧ len * n ≤ 16777216, if litO P t len ps.toList = true then (.o H.length 0 0 len, H ++ [⟨e, 0, cs, true⟩]) else (.sl true len cs, H))
      | _, _ => none
    | none => none
  | .load t a => match ρ a with
    | .p b g off => (H.at b g).bind fun k => (ldV P t k.cs off).map fun (c, v) => (c, v, H)
    | .r cs off => (ldV P t cs off).map fun (c, v) => (c, v, H)
    | _ => none
  | .store t a x => match ρ a, (ρ x).cells, szT P t with
    | .p b g off, some vs, some n => (H.at b g).map fun k => (vs.length = n ∧ off + n ≤ k.cs.length, .any, H.set b { k with cs := spl k.cs off vs })
    | _, _, _ => none
  | .nilCheck x => match ρ x with
    | .p b g off => (H.at b g).map fun _ => (True, .p b g off, H)
    | .r cs off => some (True, .r cs off, H)
    | .f (.func f) a c => some (True, .f (.func f) a c, H)
    | _ => none
  | .binOp op t x y _ => (binV P op t (isC x || isC y) (ρ x) (ρ y)).map fun (c, v) => (c, v, H)
  | .unOp op _ x => (unV op (ρ x)).map fun v => (True, v, H)
  | .convert s t x => match cvV P s t (ρ x) with
    | some v => some (True, v, H)
    | none => cvS P H s t (ρ x)
  | .makeFunc fn a c => some (True, .f fn (a.toList.map ρ) (c.toList.map ρ), H)
  | .makeSlice t l c => match ρ l, ρ c, elT P t with
    | .i _ l, .i _ c, some e => match szT P e, byT P e, zrT P e with
      | some z, some y, some zs => some (0 ≤ l ∧ l ≤ c ∧ y * c ≤ 281474976710656 ∧ c ≤ 281474976710656 ∧ zs.length = z ∧ 0 < z ∧ zs.all V.one = true, .o H.length 0 0 l.toNat, H ++ [⟨e, 0, (List.replicate l.toNat zs).flatten, true⟩])
      | _, _, _ => none
    | _, _, _ => none
  | .slice t x lo hi mx => (slV P H t (ρ x) (lo.map ρ) (hi.map ρ) (mx.map ρ)).map fun (c, v) => (c, v, H)
  | .fieldAddr t x f => (fdT P t f).bind fun (o, _) => match ρ x with
    | .p b g off => (H.at b g).map fun _ => (True, .p b g (off + o), H)
    | .r cs off => some (True, .r cs (off + o), H)
    | _ => none
  | .field t x f => (fdT P t f).bind fun (o, u) => match ρ x with
    | .agg cs => (ldV P u cs o).map fun (c, v) => (c, v, H)
    | _ => none
  | .indexAddr t x ix => match ρ ix with
    | .i _ j => match elT P t, arT P t, ρ x with
      | some e, _, .sl _ n cs => (szT P e).map fun z => (0 ≤ j ∧ j < n ∧ 0 < cs.length, .r cs (j.toNat * z), H)
      | some e, _, .o b g off n => (H.at b g).bind fun _ => (szT P e).map fun z => (0 ≤ j ∧ j < n, .p b g (off + j.toNat * z), H)
      | none, some (n, e), .p b g off => (H.at b g).bind fun _ => (szT P e).map fun z => (0 ≤ j ∧ j < n, .p b g (off + j.toNat * z), H)
      | none, some (n, e), .r cs off => (szT P e).map fun z => (0 ≤ j ∧ j < n, .r cs (off + j.toNat * z), H)
      | _, _, _ => none
    | _ => none
  | .index t x ix => match ρ ix, arT P t, ρ x with
    | .i _ j, some (n, e), .agg cs => (szT P e).bind fun z => (ldV P e cs (j.toNat * z)).map fun (c, v) => (0 ≤ j ∧ j < n ∧ c, v, H)
    | _, _, _ => none
  | .extract x ix => match ρ x with
    | .tup vs => (vs[ix]?).map fun v => (True, v, H)
    | _ => none
  | .call ⟨.builtin b, as, ts⟩ => biV P b ts.toList (as.toList.map ρ) H
  | _ => none
end
/-- The slots, the last written ones first. -/
abbrev Tm := List (Nat × V)
def lk : Tm → Nat → V
  | [], _ => .any
  | (m, v) :: t, n => if m = n then v else lk t n
def ev (t : Tm) : Operand → V
  | .tmp n => lk t n
  | .const v => vOf v
  | .global _ => .any
  | .func f => .f (.func f) [] []
structure St where
  t : Tm
  h : Heap
def putV (t : Tm) : Option Nat → V → Tm
  | some d, v => (d, v) :: t
  | none, _ => t
end Go.Proofs.E
end
/- What the machine of values says of memory. Of no function. -/
section
set_option linter.unusedVariables false
set_option linter.unusedSimpArgs false
set_option linter.unusedSectionVars false
namespace Go.Proofs.E
open Go
set_option linter.unusedVariables false
set_option linter.unusedSimpArgs false
/-- Blocks that stay as they were from the program's begin on. -/
structure Amb where
  n : Nat
  c : Nat → Option Obj
  ban : Nat → Prop
/-- v stands for the value x: w the memory, F the blocks that are only read, m where blocks of the call's own lie, H these. -/
inductive RepV (P : Program) (w : World) (F : Nat → Prop) (m : Nat → Option Nat) (H : Heap) : V → Value → Prop where
  | any (x) : RepV P w F m H .any x
  | bq (x) : RepV P w F m H .bq (.bool x)
  | b (x) : RepV P w F m H (.b x) (.bool x)
  | i (k n) : RepV P w F m H (.i k n) (.int k n)
  | s (x) : RepV P w F m H (.s x) (.string x)
  | np : RepV P w F m H .np (.pointer none)
  | ns : RepV P w F m H .ns (.slice none 0 0)
  | nf : RepV P w F m H .nf .nilFunc
  | ni : RepV P w F m H .ni .nilIface
  | nm : RepV P w F m H .nm (.map none)
  | p {b g off} (x : Option Addr) (hb : b < H.length) (h : ∀ k, H[b]? = some k → g ≤ k.g ∧ (k.live = true → k.g = g → ∃ c, m b = some c ∧ x = some ⟨c, off, none⟩)) : RepV P w F m H (.p b g off) (.pointer x)
  | r {cs off} (a : Addr) (xs : Nat → Value) (hF : F a.block) (hc : ∀ j v, cs[j]? = some v → w.cell? ⟨a.block, a.off + j, none⟩ = some (xs j)) (hx : ∀ j v, cs[j]? = some v → RepV P w F m H v (xs j)) : RepV P w F m H (.r cs off) (.pointer (some ⟨a.block, a.off + off, none⟩))
  | sl {f n cs} (A : Option Addr) (c : Nat) (xs : Nat → Value) (hl : n ≤ c) (hf : f = true → c = n) (hA : ∀ j v, cs[j]? = some v → ∃ a, A = some a ∧ F a.block ∧ w.cell? (a.add j) = some (xs j)) (hx : ∀ j v, cs[j]? = some v → RepV P w F m H v (xs j)) (hn : A = none → n = 0) : RepV P w F m H (.sl f n cs) (.slice A n c)
  | o {b g off n} (A : Option Addr) (c : Nat) (hb : b < H.length) (hc : n ≤ c) (hm : c ≤ maxLen) (h : ∀ k, H[b]? = some k → g ≤ k.g ∧ (k.live = true → k.g = g →
      ((A = none ∧ n = 0 ∧ c = 0 ∧ m b = none) ∨ (n = 0 ∧ 0 < off) ∨ ∃ q cur, m b = some q ∧ A = some ⟨q, off, none⟩ ∧ w.heap[q]? = some (.cells cur k.t (0, 0)) ∧ (arT P k.t = none → off + c * P.cellsOf k.t ≤ cur.size)))) : RepV P w F m H (.o b g off n) (.slice A n c)
  | f {fn a c} (as cs : Array Value) (ha : as.size = a.length) (hc : cs.size = c.length) (h1 : ∀ j v, a[j]? = some v → RepV P w F m H v (as.getD j undef)) (h2 : ∀ j v, c[j]? = some v → RepV P w F m H v (cs.getD j undef)) : RepV P w F m H (.f fn a c) (.func fn as cs)
  | iv {t v x} (h : RepV P w F m H v x) : RepV P w F m H (.iv t v) (.iface t x)
  | agg {cs} (as : Array Value) (ha : as.size = cs.length) (h : ∀ j v, cs[j]? = some v → RepV P w F m H v (as.getD j undef)) : RepV P w F m H (.agg cs) (.agg as)
  | tup {cs} (as : Array Value) (ha : as.size = cs.length) (h : ∀ j v, cs[j]? = some v → RepV P w F m H v (as.getD j undef)) : RepV P w F m H (.tup cs) (.tuple as)
/-- The blocks that may be written. -/
def Mut (m : Nat → Option Nat) (H : Heap) (q : Nat) : Prop := ∃ b k, H[b]? = some k ∧ k.live = true ∧ m b = some q
def RO (A : Amb) (w : World) (m : Nat → Option Nat) (H : Heap) (q : Nat) : Prop := q < w.heap.size ∧ ¬ Mut m H q ∧ ¬ A.ban q
/-- Memory is as the machine has it. -/
structure RepH (P : Program) (A : Amb) (w : World) (m : Nat → Option Nat) (H : Heap) : Prop where
  amb : ∀ b, b < A.n → w.heap[b]? = A.c b
  ambn : A.n ≤ w.heap.size
  ban : ∀ q, A.ban q → q < w.heap.size
  own : ∀ b q k, H[b]? = some k → k.live = true → m b = some q → A.n ≤ q ∧ ∃ cur : Array Value, w.heap[q]? = some (.cells cur k.t (0, 0)) ∧ k.cs.length ≤ cur.size ∧
    ∀ (j : Nat) (v : V), k.cs[j]? = some v → ∃ x : Value, cur[j]? = some x ∧ RepV P w (RO A w m H) m H v x
  own2 : ∀ b q k, H[b]? = some k → k.live = true → m b = some q → ¬ A.ban q
  nil : ∀ b k, H[b]? = some k → k.live = true → m b = none → k.cs = []
  inj : ∀ b b' k k' q, H[b]? = some k → k.live = true → H[b']? = some k' → k'.live = true → m b = some q → m b' = some q → b = b'
/-- What may have turned between two states. -/
structure Keep (w : World) (m : Nat → Option Nat) (H : Heap) (w' : World) (m' : Nat → Option Nat) (H' : Heap) : Prop where
  os : w'.os = w.os
  tape : w'.tape = w.tape
  output : w'.output = w.output ∧ w.drawn ≤ w'.drawn
  size : w.heap.size ≤ w'.heap.size
  block : ∀ q, q < w.heap.size → ¬ Mut m H q → w'.heap[q]? = w.heap[q]?
  fresh : ∀ q, Mut m' H' q → Mut m H q ∨ w.heap.size ≤ q
  len : H.length ≤ H'.length
  age : ∀ b k k', H[b]? = some k → H'[b]? = some k' → k.g ≤ k'.g ∧ (k'.g = k.g → k'.live = true → k.live = true ∧ k'.t = k.t ∧ m' b = m b ∧
    ∀ q cur, m b = some q → w.heap[q]? = some (.cells cur k.t (0, 0)) → ∃ cur', w'.heap[q]? = some (.cells cur' k.t (0, 0)) ∧ cur'.size = cur.size)
theorem Keep.refl (w : World) (m : Nat → Option Nat) (H : Heap) : Keep w m H w m H :=
  ⟨rfl, rfl, ⟨rfl, Nat.le_refl _⟩, Nat.le_refl _, fun _ _ _ => rfl, fun _ h => .inl h, Nat.le_refl _, fun b k k' h h' => by
    obtain rfl : k = k' := Option.some.inj (h.symm.trans h')
    exact ⟨Nat.le_refl _, fun _ hl => ⟨hl, rfl, rfl, fun q cur _ hc => ⟨cur, hc, rfl⟩⟩⟩⟩
theorem Keep.trans {w w' w'' : World} {m m' m'' : Nat → Option Nat} {H H' H'' : Heap} (h : Keep w m H w' m' H') (k : Keep w' m' H' w'' m'' H'') : Keep w m H w'' m'' H'' where
  os := k.os.trans h.os
  tape := k.tape.trans h.tape
  output := ⟨k.output.1.trans h.output.1, Nat.le_trans h.output.2 k.output.2⟩
  size := Nat.le_trans h.size k.size
  block q hq hm := (k.block q (Nat.lt_of_lt_of_le hq h.size) (fun hm' => (h.fresh q hm').elim hm (fun hl => by omega))).trans (h.block q hq hm)
  fresh q hm := (k.fresh q hm).elim (fun hm => h.fresh q hm) (fun hl => .inr (Nat.le_trans h.size hl))
  len := Nat.le_trans h.len k.len
  age b x x'' hx hx'' := by
    have hb : b < H'.length := Nat.lt_of_lt_of_le (List.getElem?_eq_some_iff.1 hx).1 h.len
    have hx' : H'[b]? = some H'[b] := List.getElem?_eq_getElem hb
    obtain ⟨a1, a2⟩ := h.age b x _ hx hx'
    obtain ⟨b1, b2⟩ := k.age b _ x'' hx' hx''
    refine ⟨Nat.le_trans a1 b1, fun he hl => ?_⟩
    obtain ⟨c1, c2, c3, c4⟩ := b2 (by omega) hl
    obtain ⟨d1, d2, d3, d4⟩ := a2 (by omega) c1
    refine ⟨d1, c2.trans d2, c3.trans d3, fun q cur hq hc => ?_⟩
    obtain ⟨cur', hc', hs'⟩ := d4 q cur hq hc
    obtain ⟨cur'', hc'', hs''⟩ := c4 q cur' (d3.trans hq) (by rw [d2]; exact hc')
    exact ⟨cur'', by rw [← d2]; exact hc'', by rw [hs'', hs']⟩
theorem RO.keep {A : Amb} {w w' : World} {m m' : Nat → Option Nat} {H H' : Heap} (h : Keep w m H w' m' H') {q : Nat} (hq : RO A w m H q) : RO A w' m' H' q ∧ w'.heap[q]? = w.heap[q]? :=
  ⟨⟨Nat.lt_of_lt_of_le hq.1 h.size, fun hm => (h.fresh q hm).elim hq.2.1 (fun hl => by have := hq.1; omega), hq.2.2⟩, h.block q hq.1 hq.2.1⟩
theorem cell_of_heap {w w' : World} {a : Addr} (h : w'.heap[a.block]? = w.heap[a.block]?) : w'.cell? a = w.cell? a := by simp only [World.cell?, h]
theorem add_block (a : Addr) (j : Nat) : (a.add j).block = a.block := by unfold Addr.add; split <;> rfl
/-- Values keep what they stand for. -/
theorem RepV.keep {P : Program} {A : Amb} {w w' : World} {m m' : Nat → Option Nat} {H H' : Heap} {v : V} {x : Value} (hk : Keep w m H w' m' H') (h : RepV P w (RO A w m H) m H v x) : RepV P w' (RO A w' m' H') m' H' v x := by
  induction h with
  | any x => exact .any x
  | bq x => exact .bq x
  | b x => exact .b x
  | i k n => exact .i k n
  | s x => exact .s x
  | np => exact .np
  | ns => exact .ns
  | nf => exact .nf
  | ni => exact .ni
  | nm => exact .nm
  | p x hb h =>
    refine .p x (Nat.lt_of_lt_of_le hb hk.len) fun k' hk' => ?_
    obtain ⟨a1, a2⟩ := hk.age _ _ k' (List.getElem?_eq_getElem hb) hk'
    obtain ⟨b1, b2⟩ := h _ (List.getElem?_eq_getElem hb)
    refine ⟨Nat.le_trans b1 a1, fun hl hg => ?_⟩
    obtain ⟨c1, c2, c3, c4⟩ := a2 (by omega) hl
    obtain ⟨c, hc, hx⟩ := b2 c1 (by omega)
    exact ⟨c, c3.trans hc, hx⟩
  | r a xs hF hc hx ih =>
    refine .r a xs (RO.keep hk hF).1 (fun j v hj => ?_) ih
    rw [cell_of_heap (a := ⟨a.block, a.off + j, none⟩) (RO.keep hk hF).2]
    exact hc j v hj
  | sl A c xs hl hf hA hx hn ih =>
    refine .sl A c xs hl hf (fun j v hj => ?_) ih hn
    obtain ⟨a, e, hF, hcell⟩ := hA j v hj
    refine ⟨a, e, (RO.keep hk hF).1, ?_⟩
    have hb : w'.heap[(a.add j).block]? = w.heap[(a.add j).block]? := by rw [add_block]; exact (RO.keep hk hF).2
    rw [cell_of_heap hb]
    exact hcell
  | o A c hb hn hm h =>
    refine .o A c (Nat.lt_of_lt_of_le hb hk.len) hn hm fun k' hk' => ?_
    obtain ⟨a1, a2⟩ := hk.age _ _ k' (List.getElem?_eq_getElem hb) hk'
    obtain ⟨b1, b2⟩ := h _ (List.getElem?_eq_getElem hb)
    refine ⟨Nat.le_trans b1 a1, fun hl hg => ?_⟩
    obtain ⟨c1, c2, c3, c4⟩ := a2 (by omega) hl
    rcases b2 c1 (by omega) with ⟨e1, e2, e3, e4⟩ | hd | ⟨q, cur, e1, e2, e3, e4⟩
    · exact .inl ⟨e1, e2, e3, c3.trans e4⟩
    · exact .inr (.inl hd)
    · obtain ⟨cur', f1, f2⟩ := c4 q cur e1 e3
      exact .inr (.inr ⟨q, cur', c3.trans e1, e2, by rw [c2]; exact f1, by rw [c2, f2]; exact e4⟩)
  | f as cs ha hc h1 h2 ih1 ih2 => exact .f as cs ha hc ih1 ih2
  | iv h ih => exact .iv ih
  | agg as ha h ih => exact .agg as ha ih
  | tup as ha h ih => exact .tup as ha ih
end Go.Proofs.E
end
/- The machine of values: memory that is made, and written. Of no function. -/
section
set_option linter.unusedVariables false
set_option linter.unusedSimpArgs false
set_option linter.unusedSectionVars false
namespace Go.Proofs.E
open Go
set_option linter.unusedVariables false
set_option linter.unusedSimpArgs false
section
variable {P : Program} {A : Amb} {w w' : World} {m m' : Nat → Option Nat} {H H' : Heap}
theorem RepH.put {b0 : Nat} {k0 : Blk} (hH : RepH P A w m H) (hk : Keep w m H w' m' H') (hget : ∀ b, b ≠ b0 → H'[b]? = H[b]?) (h0 : H'[b0]? = some k0) (hm : ∀ b, b ≠ b0 → m' b = m b)
    (hq : k0.live = true → ∀ q, m' b0 = some q → (A.n ≤ q ∧ ¬ A.ban q) ∧ (∀ b k, b ≠ b0 → H[b]? = some k → k.live = true → m b ≠ some q) ∧ ∃ cur : Array Value, w'.heap[q]? = some (.cells cur k0.t (0, 0)) ∧ k0.cs.length ≤ cur.size ∧
      ∀ (j : Nat) (v : V), k0.cs[j]? = some v → ∃ x : Value, cur[j]? = some x ∧ RepV P w (RO A w m H) m H v x)
    (hn : k0.live = true → m' b0 = none → k0.cs = [])
    (hsame : ∀ b k q, b ≠ b0 → H[b]? = some k → k.live = true → m b = some q → w'.heap[q]? = w.heap[q]?) : RepH P A w' m' H' where
  amb b hb := (hk.block b (Nat.lt_of_lt_of_le hb hH.ambn) (fun ⟨b', k', h1, h2, h3⟩ => by have := (hH.own b' b k' h1 h2 h3).1; omega)).trans (hH.amb b hb)
  ambn := Nat.le_trans hH.ambn hk.size
  ban q hq := Nat.lt_of_lt_of_le (hH.ban q hq) hk.size
  own b q k hb hl hmq := by
    by_cases e : b = b0
    · subst e
      obtain rfl : k = k0 := Option.some.inj (hb.symm.trans h0)
      obtain ⟨a1, _, cur, a2, a3, a4⟩ := hq hl q hmq
      exact ⟨a1.1, cur, a2, a3, fun j v hj => let ⟨x, hx, hr⟩ := a4 j v hj; ⟨x, hx, hr.keep hk⟩⟩
    · rw [hget b e] at hb
      rw [hm b e] at hmq
      obtain ⟨a1, cur, a2, a3, a4⟩ := hH.own b q k hb hl hmq
      exact ⟨a1, cur, (hsame b k q e hb hl hmq).trans a2, a3, fun j v hj => let ⟨x, hx, hr⟩ := a4 j v hj; ⟨x, hx, hr.keep hk⟩⟩
  own2 b q k hb hl hmq := by
    by_cases e : b = b0
    · subst e
      obtain rfl : k = k0 := Option.some.inj (hb.symm.trans h0)
      exact (hq hl q hmq).1.2
    · rw [hget b e] at hb
      rw [hm b e] at hmq
      exact hH.own2 b q k hb hl hmq
  nil b k hb hl hmq := by
    by_cases e : b = b0
    · subst e
      obtain rfl : k = k0 := Option.some.inj (hb.symm.trans h0)
      exact hn hl hmq
    · rw [hget b e] at hb
      rw [hm b e] at hmq
      exact hH.nil b k hb hl hmq
  inj b b' k k' q hb hl hb' hl' hq1 hq2 := by
    by_cases e : b = b0
    · by_cases e' : b' = b0
      · rw [e, e']
      · subst e
        obtain rfl : k = k0 := Option.some.inj (hb.symm.trans h0)
        rw [hget b' e'] at hb'
        rw [hm b' e'] at hq2
        exact absurd hq2 ((hq hl q hq1).2.1 b' k' e' hb' hl')
    · by_cases e' : b' = b0
      · subst e'
        obtain rfl : k' = k0 := Option.some.inj (hb'.symm.trans h0)
        rw [hget b e] at hb
        rw [hm b e] at hq1
        exact absurd hq1 ((hq hl' q hq2).2.1 b k e hb hl)
      · rw [hget b e] at hb
        rw [hget b' e'] at hb'
        rw [hm b e] at hq1
        rw [hm b' e'] at hq2
        exact hH.inj b b' k k' q hb hl hb' hl' hq1 hq2
theorem RepH.lt (hH : RepH P A w m H) {b q : Nat} {k : Blk} (h : H[b]? = some k) (hl : k.live = true) (hm : m b = some q) : q < w.heap.size := by
  obtain ⟨_, cur, hc, _⟩ := hH.own b q k h hl hm
  exact (Array.getElem?_eq_some_iff.1 hc).1
theorem Mut.lt (hH : RepH P A w m H) {q : Nat} (h : Mut m H q) : q < w.heap.size := let ⟨b, k, h1, h2, h3⟩ := h; hH.lt h1 h2 h3
/-- The tape alone moved on. -/
theorem Keep.drew (w : World) (m : Nat → Option Nat) (H : Heap) : Keep w m H w.drew m H :=
  ⟨rfl, rfl, ⟨rfl, Nat.le_succ _⟩, Nat.le_refl _, fun _ _ _ => rfl, fun _ h => .inl h, Nat.le_refl _, fun b k k' h h' => by
    obtain rfl : k = k' := Option.some.inj (h.symm.trans h')
    exact ⟨Nat.le_refl _, fun _ hl => ⟨hl, rfl, rfl, fun q cur _ hc => ⟨cur, hc, rfl⟩⟩⟩⟩
/-- A state that the machine has as before. -/
theorem RepH.same (hH : RepH P A w m H) (hk : Keep w m H w' m H) (hs : ∀ q, Mut m H q → w'.heap[q]? = w.heap[q]?) : RepH P A w' m H where
  amb b hb := (hk.block b (Nat.lt_of_lt_of_le hb hH.ambn) (fun ⟨b', k', h1, h2, h3⟩ => by have := (hH.own b' b k' h1 h2 h3).1; omega)).trans (hH.amb b hb)
  ambn := Nat.le_trans hH.ambn hk.size
  ban q hq := Nat.lt_of_lt_of_le (hH.ban q hq) hk.size
  own b q k hb hl hmq := by
    obtain ⟨a1, cur, a2, a3, a4⟩ := hH.own b q k hb hl hmq
    exact ⟨a1, cur, (hs q ⟨b, k, hb, hl, hmq⟩).trans a2, a3, fun j v hj => let ⟨x, hx, hr⟩ := a4 j v hj; ⟨x, hx, hr.keep hk⟩⟩
  own2 := hH.own2
  nil := hH.nil
  inj := hH.inj
theorem RepH.drew (hH : RepH P A w m H) : RepH P A w.drew m H := hH.same (Keep.drew w m H) fun _ _ => rfl
theorem alloc_old (w : World) (o : Obj) {q : Nat} (h : q < w.heap.size) : (w.alloc o).heap[q]? = w.heap[q]? := heap_alloc_old w o q h
theorem alloc_size (w : World) (o : Obj) : (w.alloc o).heap.size = w.heap.size + 1 := Array.size_push _
/-- A block that is only read from now on. -/
theorem Keep.alloc (hH : RepH P A w m H) (o : Obj) : Keep w m H (w.alloc o) m H :=
  ⟨rfl, rfl, ⟨rfl, Nat.le_refl _⟩, by rw [alloc_size]; omega, fun q hq _ => alloc_old w o hq, fun _ h => .inl h, Nat.le_refl _, fun b k k' h h' => by
    obtain rfl : k = k' := Option.some.inj (h.symm.trans h')
    exact ⟨Nat.le_refl _, fun _ hl => ⟨hl, rfl, rfl, fun q cur hm hc => ⟨cur, (alloc_old w o (hH.lt h hl hm)).trans hc, rfl⟩⟩⟩⟩
theorem RepH.alloc (hH : RepH P A w m H) (o : Obj) : RepH P A (w.alloc o) m H := hH.same (Keep.alloc hH o) fun q hq => alloc_old w o (Mut.lt hH hq)
/-- Where the machine's next block lies. -/
def at_ (m : Nat → Option Nat) (b : Nat) (q : Option Nat) : Nat → Option Nat := fun b' => if b' = b then q else m b'
theorem at_self (m : Nat → Option Nat) (b : Nat) (q : Option Nat) : at_ m b q b = q := by simp [at_]
theorem at_ne (m : Nat → Option Nat) {b b' : Nat} (q : Option Nat) (h : b' ≠ b) : at_ m b q b' = m b' := by simp [at_, h]
theorem Keep.new (hH : RepH P A w m H) (o : Obj) (k0 : Blk) : Keep w m H (w.alloc o) (at_ m H.length (some w.heap.size)) (H ++ [k0]) := by
  refine ⟨rfl, rfl, ⟨rfl, Nat.le_refl _⟩, by rw [alloc_size]; omega, fun q hq _ => alloc_old w o hq, ?_, by simp, fun b k k' h h' => ?_⟩
  · rintro q ⟨b, k, h1, h2, h3⟩
    by_cases e : b = H.length
    · subst e
      rw [at_self] at h3
      exact .inr (by injection h3 with h3; omega)
    · rw [at_ne m _ e] at h3
      refine .inl ⟨b, k, ?_, h2, h3⟩
      have hlt : b < H.length := by have := (List.getElem?_eq_some_iff.1 h1).1; simp at this; omega
      rwa [List.getElem?_append_left hlt] at h1
  · have hlt := (List.getElem?_eq_some_iff.1 h).1
    rw [List.getElem?_append_left hlt] at h'
    obtain rfl : k = k' := Option.some.inj (h.symm.trans h')
    exact ⟨Nat.le_refl _, fun _ hl => ⟨hl, rfl, at_ne m _ (by omega), fun q cur hm hc => ⟨cur, (alloc_old w o (hH.lt h hl hm)).trans hc, rfl⟩⟩⟩
theorem RepH.new (hH : RepH P A w m H) (t : TypeId) (g : Nat) (cs : List V) (cur : Array Value) (hs : cs.length ≤ cur.size)
    (hc : ∀ (j : Nat) (v : V), cs[j]? = some v → ∃ x : Value, cur[j]? = some x ∧ RepV P w (RO A w m H) m H v x) :
    RepH P A (w.alloc (.cells cur t)) (at_ m H.length (some w.heap.size)) (H ++ [⟨t, g, cs, true⟩]) := by
  refine hH.put (b0 := H.length) (k0 := ⟨t, g, cs, true⟩) (Keep.new hH _ _) (fun b hb => ?_) (by rw [List.getElem?_append_right (Nat.le_refl _), Nat.sub_self]; rfl) (fun b hb => at_ne m _ hb) (fun _ q hq => ?_) (fun _ hn => by rw [at_self] at hn; cases hn) (fun b k q _ hb hl hm => alloc_old w _ (hH.lt hb hl hm))
  · rcases Nat.lt_or_ge b H.length with h | h
    · exact List.getElem?_append_left h
    · rw [List.getElem?_eq_none (l := H) (by omega), List.getElem?_eq_none (by rw [List.length_append, List.length_singleton]; omega)]
  · rw [at_self] at hq
    injection hq with hq
    subst hq
    exact ⟨⟨hH.ambn, fun hb => by have := hH.ban _ hb; omega⟩, fun b k _ hb hl hm => by have := hH.lt hb hl hm; omega, cur, heap_alloc_new w _, hs, hc⟩
/-- A block of the call's own that is written, and grows older or not. -/
theorem Keep.row (hH : RepH P A w m H) {b q : Nat} {k k' : Blk} {cur cur' : Array Value} (hb : H[b]? = some k) (hl : k.live = true) (hm : m b = some q) (hc : w.heap[q]? = some (.cells cur k.t (0, 0))) (hs : cur'.size = cur.size)
    (hg : k.g ≤ k'.g) (ht : k'.t = k.t) : Keep w m H (w.setRow q cur') m (H.set b k') := by
  refine ⟨rfl, rfl, ⟨rfl, Nat.le_refl _⟩, by simp [World.setRow], fun p hp hn => setRow_other w q p _ (fun e => hn (e ▸ ⟨b, k, hb, hl, hm⟩)), ?_, by simp, fun b2 k2 k2' h h' => ?_⟩
  · rintro p ⟨b2, k2, h1, h2, h3⟩
    by_cases e : b2 = b
    · subst e; exact .inl ⟨b2, k, hb, hl, h3⟩
    · rw [List.getElem?_set_ne (Ne.symm e)] at h1
      exact .inl ⟨b2, k2, h1, h2, h3⟩
  · by_cases e : b2 = b
    · subst e
      obtain rfl : k2 = k := Option.some.inj (h.symm.trans hb)
      rw [List.getElem?_set_self (List.getElem?_eq_some_iff.1 hb).1] at h'
      obtain rfl : k' = k2' := Option.some.inj h'
      refine ⟨hg, fun _ _ => ⟨hl, ht, rfl, fun q2 cur2 hm2 hc2 => ?_⟩⟩
      obtain rfl : q2 = q := Option.some.inj (hm2.symm.trans hm)
      rw [hc] at hc2
      injection hc2 with hc2
      injection hc2 with hc2
      exact ⟨cur', setRow_heap w q2 cur cur' _ _ hc, by rw [hs, hc2]⟩
    · rw [List.getElem?_set_ne (Ne.symm e)] at h'
      obtain rfl : k2 = k2' := Option.some.inj (h.symm.trans h')
      refine ⟨Nat.le_refl _, fun _ hl2 => ⟨hl2, rfl, rfl, fun q2 cur2 hm2 hc2 => ⟨cur2, ?_, rfl⟩⟩⟩
      rw [setRow_other w q q2 _ (fun e2 => e (hH.inj b2 b k2 k q h hl2 hb hl (e2 ▸ hm2) hm))]
      exact hc2
theorem RepH.row (hH : RepH P A w m H) {b q : Nat} {k k' : Blk} {cur cur' : Array Value} (hb : H[b]? = some k) (hl : k.live = true) (hm : m b = some q) (hc : w.heap[q]? = some (.cells cur k.t (0, 0))) (hs : cur'.size = cur.size)
    (hg : k.g ≤ k'.g) (ht : k'.t = k.t) (hs' : k'.cs.length ≤ cur'.size) (hr : ∀ (j : Nat) (v : V), k'.cs[j]? = some v → ∃ x : Value, cur'[j]? = some x ∧ RepV P w (RO A w m H) m H v x) : RepH P A (w.setRow q cur') m (H.set b k') := by
  have hlt := (List.getElem?_eq_some_iff.1 hb).1
  refine hH.put (b0 := b) (k0 := k') (Keep.row hH hb hl hm hc hs hg ht) (fun b2 h2 => List.getElem?_set_ne (Ne.symm h2)) (List.getElem?_set_self hlt) (fun _ _ => rfl) (fun _ q2 hq2 => ?_) (fun _ hn => by rw [hm] at hn; cases hn) (fun b2 k2 q2 h2 hb2 hl2 hm2 => setRow_other w q q2 _ (fun e2 => h2 (hH.inj b2 b k2 k q hb2 hl2 hb hl (e2 ▸ hm2) hm)))
  obtain rfl : q = q2 := Option.some.inj (hm.symm.trans hq2)
  exact ⟨⟨(hH.own b q k hb hl hm).1, hH.own2 b q k hb hl hm⟩, fun b2 k2 h2 hb2 hl2 hm2 => h2 (hH.inj b2 b k2 k q hb2 hl2 hb hl hm2 hm), cur', by rw [ht]; exact setRow_heap w q cur cur' _ _ hc, hs', hr⟩
/-- A block that moved when it grew. -/
theorem Keep.moved (hH : RepH P A w m H) {b : Nat} {k k' : Blk} (o : Obj) (hb : H[b]? = some k) (hg : k.g < k'.g) : Keep w m H (w.alloc o) (at_ m b (some w.heap.size)) (H.set b k') := by
  refine ⟨rfl, rfl, ⟨rfl, Nat.le_refl _⟩, by rw [alloc_size]; omega, fun q hq _ => alloc_old w o hq, ?_, by simp, fun b2 k2 k2' h h' => ?_⟩
  · rintro q ⟨b2, k2, h1, h2, h3⟩
    by_cases e : b2 = b
    · subst e
      rw [at_self] at h3
      exact .inr (by injection h3 with h3; omega)
    · rw [at_ne m _ e] at h3
      rw [List.getElem?_set_ne (Ne.symm e)] at h1
      exact .inl ⟨b2, k2, h1, h2, h3⟩
  · by_cases e : b2 = b
    · subst e
      obtain rfl : k2 = k := Option.some.inj (h.symm.trans hb)
      rw [List.getElem?_set_self (List.getElem?_eq_some_iff.1 hb).1] at h'
      obtain rfl : k' = k2' := Option.some.inj h'
      exact ⟨Nat.le_of_lt hg, fun e _ => by omega⟩
    · rw [List.getElem?_set_ne (Ne.symm e)] at h'
      obtain rfl : k2 = k2' := Option.some.inj (h.symm.trans h')
      exact ⟨Nat.le_refl _, fun _ hl2 => ⟨hl2, rfl, at_ne m _ e, fun q cur hm2 hc2 => ⟨cur, (alloc_old w o (hH.lt h hl2 hm2)).trans hc2, rfl⟩⟩⟩
theorem RepH.moved (hH : RepH P A w m H) {b : Nat} {k : Blk} (t : TypeId) (g : Nat) (cs : List V) (cur : Array Value) (hb : H[b]? = some k) (hg : k.g < g) (hs : cs.length ≤ cur.size)
    (hc : ∀ (j : Nat) (v : V), cs[j]? = some v → ∃ x : Value, cur[j]? = some x ∧ RepV P w (RO A w m H) m H v x) :
    RepH P A (w.alloc (.cells cur t)) (at_ m b (some w.heap.size)) (H.set b ⟨t, g, cs, true⟩) := by
  have hlt := (List.getElem?_eq_some_iff.1 hb).1
  refine hH.put (b0 := b) (k0 := ⟨t, g, cs, true⟩) (Keep.moved hH _ hb hg) (fun b2 h2 => List.getElem?_set_ne (Ne.symm h2)) (List.getElem?_set_self hlt) (fun b2 h2 => at_ne m _ h2) (fun _ q hq => ?_) (fun _ hn => by rw [at_self] at hn; cases hn) (fun b2 k2 q _ hb2 hl2 hm2 => alloc_old w _ (hH.lt hb2 hl2 hm2))
  rw [at_self] at hq
  injection hq with hq
  subst hq
  exact ⟨⟨hH.ambn, fun hb => by have := hH.ban _ hb; omega⟩, fun b2 k2 _ hb2 hl2 hm2 => by have := hH.lt hb2 hl2 hm2; omega, cur, heap_alloc_new w _, hs, hc⟩
/-- A block of which nothing lies in memory yet, and that stays so: it grows older alone. -/
theorem Keep.older (hH : RepH P A w m H) {b : Nat} {k k' : Blk} (hb : H[b]? = some k) (hl : k.live = true) (hg : k.g ≤ k'.g) (ht : k'.t = k.t) : Keep w m H w m (H.set b k') := by
  refine ⟨rfl, rfl, ⟨rfl, Nat.le_refl _⟩, Nat.le_refl _, fun _ _ _ => rfl, ?_, by simp, fun b2 k2 k2' h h' => ?_⟩
  · rintro p ⟨b2, k2, h1, h2, h3⟩
    by_cases e : b2 = b
    · subst e; exact .inl ⟨b2, k, hb, hl, h3⟩
    · rw [List.getElem?_set_ne (Ne.symm e)] at h1
      exact .inl ⟨b2, k2, h1, h2, h3⟩
  · by_cases e : b2 = b
    · subst e
      obtain rfl : k2 = k := Option.some.inj (h.symm.trans hb)
      rw [List.getElem?_set_self (List.getElem?_eq_some_iff.1 hb).1] at h'
      obtain rfl : k' = k2' := Option.some.inj h'
      exact ⟨hg, fun _ _ => ⟨hl, ht, rfl, fun q2 cur2 _ hc2 => ⟨cur2, hc2, rfl⟩⟩⟩
    · rw [List.getElem?_set_ne (Ne.symm e)] at h'
      obtain rfl : k2 = k2' := Option.some.inj (h.symm.trans h')
      exact ⟨Nat.le_refl _, fun _ hl2 => ⟨hl2, rfl, rfl, fun q2 cur2 _ hc2 => ⟨cur2, hc2, rfl⟩⟩⟩
end
end Go.Proofs.E
end
/- The machine of values: what its operations yield is what the program's yield: words, numbers, memory. Of no function. -/
section
set_option linter.unusedVariables false
set_option linter.unusedSimpArgs false
set_option linter.unusedSectionVars false
namespace Go.Proofs.E
open Go
set_option linter.unusedVariables false
set_option linter.unusedSimpArgs false
theorem vOf_rep (P : Program) (w : World) (F : Nat → Prop) (m : Nat → Option Nat) (H : Heap) (x : Value) : RepV P w F m H (vOf x) x := by
  unfold vOf
  split <;> first | exact .any _ | exact .b _ | exact .i _ _ | exact .s _ | exact .np | exact .ns | exact .nm | exact .nf | exact .ni
section
variable {P : Program} {A : Amb} {w : World} {m : Nat → Option Nat} {H : Heap} {F : Nat → Prop}
theorem one_rep {v : V} {x : Value} (h : RepV P w F m H v x) (h1 : v.one = true) : x.oneCell' = true ∧ x.cells = #[x] := by
  cases h with
  | _ => first | (cases h1; done) | exact ⟨rfl, rfl⟩
/-- Cells that stand for values. -/
def RepL (P : Program) (w : World) (F : Nat → Prop) (m : Nat → Option Nat) (H : Heap) (cs : List V) (as : Array Value) : Prop := as.size = cs.length ∧ ∀ j v, cs[j]? = some v → RepV P w F m H v (as.getD j undef)
theorem RepL.get {cs : List V} {as : Array Value} (h : RepL P w F m H cs as) {j : Nat} {v : V} (hj : cs[j]? = some v) : ∃ x, as[j]? = some x ∧ RepV P w F m H v x := by
  have hlt : j < as.size := by rw [h.1]; exact (List.getElem?_eq_some_iff.1 hj).1
  have := h.2 j v hj
  rw [Array.getD_eq_getD_getElem?, Array.getElem?_eq_getElem hlt] at this
  exact ⟨as[j], Array.getElem?_eq_getElem hlt, this⟩
theorem RepL.of {cs : List V} {as : Array Value} (hs : as.size = cs.length) (h : ∀ (j : Nat) v, cs[j]? = some v → ∃ x, as[j]? = some x ∧ RepV P w F m H v x) : RepL P w F m H cs as :=
  ⟨hs, fun j v hj => by obtain ⟨x, hx, hr⟩ := h j v hj; rw [Array.getD_eq_getD_getElem?, hx]; exact hr⟩
theorem RepL.agg {cs : List V} {as : Array Value} (h : RepL P w F m H cs as) : RepV P w F m H (.agg cs) (.agg as) := .agg as h.1 h.2
theorem RepL.keep {w' : World} {m' : Nat → Option Nat} {H' : Heap} {cs : List V} {as : Array Value} (h : RepL P w (RO A w m H) m H cs as) (hk : Keep w m H w' m' H') : RepL P w' (RO A w' m' H') m' H' cs as := ⟨h.1, fun j v hj => (h.2 j v hj).keep hk⟩
theorem RepL.append {a b : List V} {x y : Array Value} (h : RepL P w F m H a x) (k : RepL P w F m H b y) : RepL P w F m H (a ++ b) (x ++ y) := by
  refine RepL.of (by simp [h.1, k.1]) fun j v hj => ?_
  rcases Nat.lt_or_ge j a.length with hl | hl
  · rw [List.getElem?_append_left hl] at hj
    rw [Array.getElem?_append_left (by rw [h.1]; exact hl)]
    exact h.get hj
  · rw [List.getElem?_append_right hl] at hj
    rw [Array.getElem?_append_right (by rw [h.1]; exact hl), h.1]
    exact k.get hj
theorem RepL.take {a : List V} {x : Array Value} (h : RepL P w F m H a x) (n : Nat) : RepL P w F m H (a.take n) (x.extract 0 n) := by
  refine RepL.of (by simp [h.1]) fun j v hj => ?_
  rw [List.getElem?_take] at hj
  split at hj
  · obtain ⟨y, hy, hr⟩ := h.get hj
    refine ⟨y, ?_, hr⟩
    rw [Array.getElem?_extract]
    simp [*]
    have := (Array.getElem?_eq_some_iff.1 hy).1
    omega
  · cases hj
theorem RepL.drop {a : List V} {x : Array Value} (h : RepL P w F m H a x) (n : Nat) : RepL P w F m H (a.drop n) (x.extract n x.size) := by
  refine RepL.of (by simp [h.1]) fun j v hj => ?_
  rw [List.getElem?_drop] at hj
  obtain ⟨y, hy, hr⟩ := h.get hj
  refine ⟨y, ?_, hr⟩
  have := (Array.getElem?_eq_some_iff.1 hy).1
  rw [Array.getElem?_extract]
  simp [hy]
  omega
theorem RepL.nil : RepL P w F m H [] #[] := ⟨rfl, fun j v h => by simp at h⟩
theorem RepL.one {v : V} {x : Value} (h : RepV P w F m H v x) : RepL P w F m H [v] #[x] := RepL.of rfl fun j u hj => by
  cases j with
  | zero => simp at hj; subst hj; exact ⟨x, rfl, h⟩
  | succ j => simp at hj
theorem all_get {cs : List V} (h : cs.all V.one = true) {j : Nat} {v : V} (hj : cs[j]? = some v) : v.one = true := List.all_eq_true.1 h v (List.mem_of_getElem? hj)
theorem RepL.ones {cs : List V} {as : Array Value} (h : RepL P w F m H cs as) (h1 : cs.all V.one = true) : ∀ x ∈ as.toList, x.oneCell' = true := by
  intro x hx
  obtain ⟨j, hj⟩ := List.getElem?_of_mem hx
  have hlt : j < cs.length := by rw [← h.1]; have := (List.getElem?_eq_some_iff.1 hj).1; simpa using this
  obtain ⟨y, hy, hr⟩ := h.get (List.getElem?_eq_getElem hlt)
  have : y = x := by rw [← Array.getElem?_toList, hj] at hy; exact (Option.some.inj hy).symm
  subst this
  exact (one_rep hr (all_get h1 (List.getElem?_eq_getElem hlt))).1
theorem cells_rep {v : V} {x : Value} {cs : List V} (h : RepV P w F m H v x) (hc : v.cells = some cs) : RepL P w F m H cs x.cells ∧ cs.all V.one = true := by
  cases v with
  | any => cases hc
  | tup vs => cases hc
  | agg l =>
    simp only [V.cells] at hc
    split at hc
    · rename_i h1
      injection hc with hc
      subst hc
      cases h with
      | agg as ha hr => exact ⟨⟨ha, hr⟩, h1⟩
    · cases hc
  | _ =>
    injection hc with hc
    subst hc
    rw [(one_rep h rfl).2]
    exact ⟨RepL.one h, rfl⟩
/-- What an operation yields. -/
structure Out (P : Program) (A : Amb) (w : World) (m : Nat → Option Nat) (H : Heap) (v : V) (H' : Heap) (x : Value) (w' : World) (m' : Nat → Option Nat) : Prop where
  rep : RepV P w' (RO A w' m' H') m' H' v x
  mem : RepH P A w' m' H'
  keep : Keep w m H w' m' H'
def Yes (P : Program) (A : Amb) (w : World) (m : Nat → Option Nat) (H : Heap) (v : V) (H' : Heap) (r : Result Next) : Prop :=
  ∃ m' w' x, (r = .ok (.value x) w' ∨ (r = .ok .skip w' ∧ x = undef)) ∧ Out P A w m H v H' x w' m'
theorem Yes.pure (hH : RepH P A w m H) {v : V} {x : Value} {r : Result Next} (hr : r = .ok (.value x) w) (h : RepV P w (RO A w m H) m H v x) : Yes P A w m H v H r :=
  ⟨m, w, x, .inl hr, h, hH, Keep.refl _ _ _⟩
theorem und_of {α : Type} {P : Program} {t : TypeId} {f : TypeDesc → Option α} {a : α} (h : (P.underlying t).bind f = some a) : ∃ d, P.underlying t = some d ∧ f d = some a := Option.bind_eq_some_iff.1 h
theorem elT_und {t e : TypeId} (h : elT P t = some e) : P.underlying t = some (.slice e) := by
  obtain ⟨d, hd, he⟩ := und_of h
  split at he
  · injection he with he; rw [hd, he]
  · cases he
theorem arT_und {t e : TypeId} {n : Nat} (h : arT P t = some (n, e)) : P.underlying t = some (.array n e) := by
  obtain ⟨d, hd, he⟩ := und_of h
  split at he
  · injection he with he; injection he with h1 h2; rw [hd, h1, h2]
  · cases he
theorem ikT_und {t : TypeId} {k : IntKind} (h : ikT P t = some k) : P.underlying t = some (.int k) := by
  obtain ⟨d, hd, he⟩ := und_of h
  split at he
  · injection he with he; rw [hd, he]
  · cases he
theorem strT_und {t : TypeId} (h : strT P t = true) : P.underlying t = some .string := by
  unfold strT at h
  split at h
  · assumption
  · cases h
theorem bolT_und {t : TypeId} (h : bolT P t = true) : P.underlying t = some .bool := by
  unfold bolT at h
  split at h
  · assumption
  · cases h
theorem szT_info {t : TypeId} {n : Nat} (h : szT P t = some n) : ∃ i, P.info? t = some i ∧ i.size = n := by
  simpa [szT] using h
theorem run_sizeOf {t : TypeId} {n : Nat} (h : szT P t = some n) (w : World) : (sizeOf t).run P w = .ok n w := by
  obtain ⟨i, hi, rfl⟩ := szT_info h
  simp [sizeOf, typeInfo, hi]
theorem run_isAgg {t : TypeId} {b : Bool} (h : aggT P t = some b) (w : World) : (isAgg t).run P w = .ok b w := by
  simp only [aggT, Option.map_eq_some_iff] at h
  obtain ⟨d, hd, hb⟩ := h
  subst hb
  simp only [isAgg, Sem.run_bind, run_underlying hd, Result.andThen_ok]
  cases d <;> rfl
/-- Reading a variable that lies in cells. -/
theorem loadVar_rep {t : TypeId} {cs : List V} {off : Nat} {C : Prop} {v : V} (h : ldV P t cs off = some (C, v)) (hC : C) (q o0 : Nat)
    (hc : ∀ (j : Nat) (u : V), cs[j]? = some u → ∃ x, w.cell? ⟨q, o0 + j, none⟩ = some x ∧ RepV P w F m H u x) : ∃ x, (loadVar t ⟨q, o0 + off, none⟩).run P w = .ok x w ∧ RepV P w F m H v x := by
  unfold ldV at h
  split at h
  · rename_i n h1 h2
    injection h with h
    injection h with e1 e2
    subst e1; subst e2
    have hx : ∀ j, j < n → ∃ x, w.cell? ⟨q, o0 + off + j, none⟩ = some x ∧ ∃ u, cs[off + j]? = some u ∧ RepV P w F m H u x := fun j hj => by
      have hlt : off + j < cs.length := by omega
      obtain ⟨x, a1, a2⟩ := hc (off + j) _ (List.getElem?_eq_getElem hlt)
      exact ⟨x, by rw [Nat.add_assoc]; exact a1, _, List.getElem?_eq_getElem hlt, a2⟩
    obtain ⟨xs, hxs⟩ : ∃ xs : List Value, xs = (List.range n).map fun j => (w.cell? ⟨q, o0 + off + j, none⟩).getD undef := ⟨_, rfl⟩
    have hl : xs.length = n := by rw [hxs]; simp
    have hget : ∀ j, j < n → xs[j]? = some ((w.cell? ⟨q, o0 + off + j, none⟩).getD undef) := fun j hj => by rw [hxs]; simp [hj]
    have hr := run_loadCells_list (P := P) w ⟨q, o0 + off, none⟩ xs (fun j v hj => by
      have hlt : j < n := by rw [← hl]; exact (List.getElem?_eq_some_iff.1 hj).1
      rw [hget j hlt] at hj
      obtain ⟨x, a1, _⟩ := hx j hlt
      rw [a1] at hj
      rw [Addr.add_lit, a1]
      exact hj)
    rw [hl] at hr
    refine ⟨.agg xs.toArray, by simp [loadVar, run_isAgg h1, run_sizeOf h2, hr], RepL.agg (RepL.of (by simp [hl]; omega) fun j v hj => ?_)⟩
    rw [List.getElem?_take] at hj
    split at hj
    · rename_i hjn
      rw [List.getElem?_drop] at hj
      obtain ⟨x, a1, u, a2, a3⟩ := hx j hjn
      obtain rfl : u = v := Option.some.inj (a2.symm.trans hj)
      exact ⟨x, by simp only [List.getElem?_toArray, hget j hjn, a1]; rfl, a3⟩
    · cases hj
  · rename_i n h1 h2
    injection h with h
    injection h with e1 e2
    subst e1; subst e2
    obtain ⟨x, a1, a2⟩ := hc off _ (List.getElem?_eq_getElem hC)
    refine ⟨x, by simp [loadVar, run_isAgg h1, run_load, a1], ?_⟩
    unfold gV
    rw [List.getD_eq_getElem?_getD, List.getElem?_eq_getElem hC]
    exact a2
  · cases h
/-- A block of the call's own, as a value points into it. -/
theorem at_some {b g : Nat} {k : Blk} (h : H.at b g = some k) : H[b]? = some k ∧ k.live = true ∧ k.g = g := by
  unfold Heap.at at h
  split at h
  · split at h
    · rename_i h1 h2
      injection h with h
      subst h
      exact ⟨h1, h2⟩
    · cases h
  · cases h
theorem p_rep {b g off : Nat} {k : Blk} {x : Value} (hr : RepV P w F m H (.p b g off) x) (h : H.at b g = some k) : ∃ q, m b = some q ∧ x = .pointer (some ⟨q, off, none⟩) := by
  obtain ⟨h1, h2, h3⟩ := at_some h
  cases hr with
  | p x hb hk =>
    obtain ⟨c, hc, rfl⟩ := (hk k h1).2 h2 h3
    exact ⟨c, hc, rfl⟩
theorem RepH.cells (hH : RepH P A w m H) {b g q : Nat} {k : Blk} (h : H.at b g = some k) (hm : m b = some q) : ∀ (j : Nat) (u : V), k.cs[j]? = some u → ∃ x, w.cell? ⟨q, 0 + j, none⟩ = some x ∧ RepV P w (RO A w m H) m H u x := by
  obtain ⟨h1, h2, h3⟩ := at_some h
  obtain ⟨_, cur, hc, hs, hr⟩ := hH.own b q k h1 h2 hm
  intro j u hj
  obtain ⟨x, hx, hrx⟩ := hr j u hj
  exact ⟨x, by simp only [Nat.zero_add, World.cell?, hc]; simpa using hx, hrx⟩
end
end Go.Proofs.E
end
/- The machine of values: its operations, one by one. Of no function. -/
section
set_option linter.unusedVariables false
set_option linter.unusedSimpArgs false
set_option linter.unusedSectionVars false
namespace Go.Proofs.E
open Go
set_option linter.unusedVariables false
set_option linter.unusedSimpArgs false
section
variable {P : Program} {A : Amb} {w : World} {m : Nat → Option Nat} {H : Heap} {F : Nat → Prop}
theorem rep_bq {y : Value} (h : RepV P w F m H .bq y) : ∃ x, y = .bool x := by cases h; exact ⟨_, rfl⟩
theorem rep_b {x : Bool} {y : Value} (h : RepV P w F m H (.b x) y) : y = .bool x := by cases h; rfl
theorem rep_i {k : IntKind} {n : Int} {y : Value} (h : RepV P w F m H (.i k n) y) : y = .int k n := by cases h; rfl
theorem rep_s {x : ByteArray} {y : Value} (h : RepV P w F m H (.s x) y) : y = .string x := by cases h; rfl
theorem rep_ns {y : Value} (h : RepV P w F m H .ns y) : y = .slice none 0 0 := by cases h; rfl
theorem rep_agg {cs : List V} {y : Value} (h : RepV P w F m H (.agg cs) y) : ∃ as, y = .agg as ∧ RepL P w F m H cs as := by
  cases h with
  | agg as ha hr => exact ⟨as, rfl, ha, hr⟩
theorem rep_tup {cs : List V} {y : Value} (h : RepV P w F m H (.tup cs) y) : ∃ as, y = .tuple as ∧ RepL P w F m H cs as := by
  cases h with
  | tup as ha hr => exact ⟨as, rfl, ha, hr⟩
theorem zr_rep {t : TypeId} {z : List V} (h : zrT P t = some z) (w : World) (F : Nat → Prop) (m : Nat → Option Nat) (H : Heap) : ∃ x, (zeroValue t).run P w = .ok x w ∧ RepL P w F m H z x.cells := by
  obtain ⟨i, hi, hz⟩ := Option.bind_eq_some_iff.1 h
  obtain ⟨x, hx, rfl⟩ := Option.map_eq_some_iff.1 hz
  refine ⟨x, by simp [zeroValue, typeInfo, hi, hx], RepL.of (by simp) fun j v hj => ?_⟩
  rw [List.getElem?_map, Option.map_eq_some_iff] at hj
  obtain ⟨y, hy, rfl⟩ := hj
  exact ⟨y, by rw [← Array.getElem?_toList]; exact hy, vOf_rep _ _ _ _ _ _⟩
/-- A new block of the call's own. -/
theorem new_yes (hH : RepH P A w m H) (t : TypeId) {cs : List V} {as : Array Value} (hr : RepL P w (RO A w m H) m H cs as) :
    Out P A w m H (.p H.length 0 0) (H ++ [⟨t, 0, cs, true⟩]) (.pointer (some ⟨w.heap.size, 0, none⟩)) (w.alloc (.cells as t)) (at_ m H.length (some w.heap.size)) := by
  refine ⟨.p _ (by simp) fun k hk => ?_, hH.new t 0 cs as (by rw [hr.1]; exact Nat.le_refl _) fun j v hj => hr.get hj, Keep.new hH _ _⟩
  exact ⟨Nat.zero_le _, fun _ _ => ⟨w.heap.size, at_self _ _ _, rfl⟩⟩
/-- A part that is filled in. -/
theorem foldl_set (off : Nat) : ∀ (l : List Value) (k : Nat) (c : Array Value), off + k + l.length ≤ c.size →
    ((l.zipIdx k).foldl (fun cs (x, j) => cs.setIfInBounds (off + j) x) c).size = c.size ∧
    ∀ j : Nat, ((l.zipIdx k).foldl (fun cs (x, j) => cs.setIfInBounds (off + j) x) c)[j]? = if off + k ≤ j ∧ j < off + k + l.length then l[j - (off + k)]? else c[j]?
  | [], k, c, _ => by
    refine ⟨rfl, fun j => ?_⟩
    have e : ¬ (off + k ≤ j ∧ j < off + k + ([] : List Value).length) := by rw [List.length_nil]; omega
    rw [if_neg e]
    rfl
  | x :: l, k, c, h => by
    have hlen : off + (k + 1) + l.length ≤ c.size := by simp at h; omega
    obtain ⟨h1, h2⟩ := foldl_set off l (k + 1) (c.setIfInBounds (off + k) x) (by simpa using hlen)
    refine ⟨by simpa [List.zipIdx_cons] using h1, fun j => ?_⟩
    simp only [List.zipIdx_cons, List.foldl_cons, h2 j, List.length_cons]
    by_cases c1 : off + (k + 1) ≤ j ∧ j < off + (k + 1) + l.length
    · rw [if_pos c1, if_pos (by omega), show j - (off + k) = (j - (off + (k + 1))) + 1 by omega, List.getElem?_cons_succ]
    · rw [if_neg c1]
      by_cases c2 : j = off + k
      · subst c2
        rw [if_pos (by omega), Nat.sub_self, List.getElem?_cons_zero, Array.getElem?_setIfInBounds_self_of_lt (by omega)]
      · rw [if_neg (by omega), Array.getElem?_setIfInBounds_ne (Ne.symm c2)]
theorem spl_eq {cs vs : List V} {off : Nat} (h : off + vs.length ≤ cs.length) : spl cs off vs = cs.take off ++ vs ++ cs.drop (off + vs.length) := by
  match vs, h with
  | [], _ => rfl
  | [v], h => 
    show cs.set off v = _
    rw [List.set_eq_take_append_cons_drop, if_pos (by simp at h; omega)]
    simp
  | _ :: _ :: _, _ => rfl
theorem spl_rep {cs vs : List V} {c x : Array Value} {off : Nat} (h : RepL P w F m H cs c) (k : RepL P w F m H vs x) (hf : off + vs.length ≤ cs.length) :
    RepL P w F m H (spl cs off vs) (x.zipIdx.foldl (fun cs (x, j) => cs.setIfInBounds (off + j) x) c) := by
  have e : x.zipIdx.foldl (fun cs (x, j) => cs.setIfInBounds (off + j) x) c = (x.toList.zipIdx 0).foldl (fun cs (x, j) => cs.setIfInBounds (off + j) x) c := by
    rw [← Array.foldl_toList, Array.toList_zipIdx]
  obtain ⟨h1, h2⟩ := foldl_set off x.toList 0 c (by simp [k.1, h.1]; omega)
  rw [e]
  rw [spl_eq hf]
  refine RepL.of (by rw [h1, h.1]; simp; omega) fun j v hj => ?_
  rw [h2 j]
  by_cases c1 : j < off
  · rw [if_neg (by omega)]
    rw [List.append_assoc, List.getElem?_append_left (by simp; omega), List.getElem?_take, if_pos c1] at hj
    exact h.get hj
  · by_cases c2 : j < off + vs.length
    · rw [if_pos (by simp [k.1]; omega), Nat.add_zero, Array.getElem?_toList]
      rw [List.append_assoc, List.getElem?_append_right (by simp; omega), List.getElem?_append_left (by simp; omega)] at hj
      have : j - (cs.take off).length = j - off := by simp; omega
      rw [this] at hj
      exact k.get hj
    · rw [if_neg (by simp [k.1]; omega)]
      rw [List.getElem?_append_right (by simp; omega), List.getElem?_drop] at hj
      have : off + vs.length + (j - (cs.take off ++ vs).length) = j := by simp; omega
      rw [this] at hj
      exact h.get hj
theorem fill_rep {pl pl' : Nat → Option (Nat × Nat)} (hpl : ∀ i o, pl i = some o → pl' i = some o) : ∀ (ps : List (Nat × V)) (qs : List (Nat × Value)) (cs : List V) (c : Array Value) (r : List V),
    fillV pl cs ps = some r → ps.length = qs.length → (∀ (j : Nat) p q, ps[j]? = some p → qs[j]? = some q → p.1 = q.1 ∧ RepV P w F m H p.2 q.2) → RepL P w F m H cs c →
    ∃ c', Instr.fill pl' c qs = some c' ∧ RepL P w F m H r c'
  | [], [], cs, c, r, h, _, _, hc => by
    injection h with h
    subst h
    exact ⟨c, rfl, hc⟩
  | (i, v) :: ps, (i', x) :: qs, cs, c, r, h, hl, hp, hc => by
    obtain ⟨e, hv⟩ := hp 0 (i, v) (i', x) rfl rfl
    obtain rfl : i = i' := e
    simp only [fillV] at h
    split at h
    · rename_i off n vs h1 h2
      split at h
      · rename_i h3
        obtain ⟨a1, a2⟩ := cells_rep hv h2
        obtain ⟨c', b1, b2⟩ := fill_rep hpl ps qs _ _ r h (by simpa using hl) (fun j p q hp' hq' => hp (j + 1) p q (by simpa using hp') (by simpa using hq')) (spl_rep hc a1 (by omega))
        refine ⟨c', ?_, b2⟩
        have g1 : ¬ (x.cells.size ≠ n) := by rw [a1.1]; omega
        have g2 : ¬ (off + x.cells.size > c.size) := by rw [a1.1, hc.1]; omega
        simp only [Instr.fill, hpl _ _ h1, g1, g2, decide_false, Bool.or_false, Bool.false_eq_true, if_false]
        exact b1
      · cases h
    · cases h
theorem pair_list (ρ : Operand → V) (ρ' : Operand → Value) (hρ : ∀ x, RepV P w F m H (ρ x) (ρ' x)) (ps : Array (Nat × Operand)) :
    (ps.toList.map fun (i, x) => (i, ρ x)).length = (ps.map fun (i, x) => (i, ρ' x)).toList.length ∧
    ∀ (j : Nat) p q, (ps.toList.map fun (i, x) => (i, ρ x))[j]? = some p → (ps.map fun (i, x) => (i, ρ' x)).toList[j]? = some q → p.1 = q.1 ∧ RepV P w F m H p.2 q.2 := by
  refine ⟨by simp, fun j p q hp hq => ?_⟩
  simp only [Array.toList_map, List.getElem?_map] at hp hq
  cases hj : ps.toList[j]? with
  | none => rw [hj] at hp; cases hp
  | some y =>
    rw [hj] at hp hq
    injection hp with hp
    injection hq with hq
    subst hp; subst hq
    exact ⟨rfl, hρ _⟩
theorem fd_und {t : TypeId} {f o : Nat} {u : TypeId} (h : fdT P t f = some (o, u)) : ∃ fs x, P.underlying t = some (.struct fs) ∧ fs[f]? = some x ∧ x.offset = o ∧ x.type = u ∧ ∃ i, P.info? u = some i ∧ i.size ≠ 0 := by
  obtain ⟨d, hd, he⟩ := und_of h
  split at he
  · rename_i fs
    obtain ⟨x, hx, he⟩ := Option.bind_eq_some_iff.1 he
    split at he
    · cases he
    · rename_i h0
      injection he with he
      injection he with h1 h2
      subst h2
      cases hi : P.info? x.type with
      | none => rw [hi] at h0; simp at h0
      | some i => rw [hi] at h0; exact ⟨fs, x, hd, hx, h1, rfl, i, rfl, by simpa using h0⟩
  · cases he
end
end Go.Proofs.E
end
/- The machine of values: its operations, one by one (2). Of no function. -/
section
set_option linter.unusedVariables false
set_option linter.unusedSimpArgs false
set_option linter.unusedSectionVars false
namespace Go.Proofs.E
open Go
set_option linter.unusedVariables false
set_option linter.unusedSimpArgs false
section
variable {P : Program} {A : Amb} {w : World} {m : Nat → Option Nat} {H : Heap} {ρ : Operand → V} {ρ' : Operand → Value}
theorem alloc_yes (hH : RepH P A w m H) (o : Oper) (t : TypeId) (ho : o.op = .alloc t) {C : Prop} {v : V} {H' : Heap} (h : stp P ρ o.op H = some (C, v, H')) (hC : C) : Yes P A w m H v H' ((execOp ρ' o).run P w) := by
  rw [ho] at h
  simp only [stp] at h
  obtain ⟨z, hz, h⟩ := Option.bind_eq_some_iff.1 h
  split at h
  · injection h with h
    injection h with h1 h
    injection h with h2 h3
    subst h2; subst h3
    obtain ⟨x, hx, hr⟩ := zr_rep hz w (RO A w m H) m H
    refine ⟨_, _, _, .inl ?_, new_yes hH t hr⟩
    simp [execOp, ho, Instr.alloc, hx, newVar, newRow]
  · cases h
theorem box_yes (hH : RepH P A w m H) (hρ : ∀ x, RepV P w (RO A w m H) m H (ρ x) (ρ' x)) (o : Oper) (t : TypeId) (x : Operand) (ho : o.op = .box t x) {C : Prop} {v : V} {H' : Heap} (h : stp P ρ o.op H = some (C, v, H')) (hC : C) : Yes P A w m H v H' ((execOp ρ' o).run P w) := by
  rw [ho] at h
  simp only [stp] at h
  obtain ⟨cs, hc, h⟩ := Option.map_eq_some_iff.1 h
  injection h with h1 h
  injection h with h2 h3
  subst h2; subst h3
  obtain ⟨hr, _⟩ := cells_rep (hρ x) hc
  refine ⟨_, _, _, .inl ?_, new_yes hH t hr⟩
  simp [execOp, ho, Instr.box, newVar, newRow]
theorem build_yes (hH : RepH P A w m H) (hρ : ∀ x, RepV P w (RO A w m H) m H (ρ x) (ρ' x)) (o : Oper) (t : TypeId) (ps : Array (Nat × Operand)) (ho : o.op = .build t ps) {C : Prop} {v : V} {H' : Heap} (h : stp P ρ o.op H = some (C, v, H')) (hC : C) : Yes P A w m H v H' ((execOp ρ' o).run P w) := by
  rw [ho] at h
  simp only [stp] at h
  obtain ⟨hl, hp⟩ := pair_list ρ ρ' hρ ps
  split at h
  · rename_i z pl hz ha hpl
    obtain ⟨cs, hc, h⟩ := Option.map_eq_some_iff.1 h
    injection h with h1 h
    injection h with h2 h3
    subst h2; subst h3
    obtain ⟨i, hi, hz'⟩ := Option.bind_eq_some_iff.1 hz
    obtain ⟨x, hx, rfl⟩ := Option.map_eq_some_iff.1 hz'
    obtain ⟨x', hx', hr⟩ := zr_rep hz w (RO A w m H) m H
    have : x' = x := by simp [zeroValue, typeInfo, hi, hx] at hx'; exact hx'.symm
    subst this
    obtain ⟨d, hd, he⟩ := und_of hpl
    split at he
    · rename_i fs
      obtain ⟨c', hf, hr'⟩ := fill_rep (pl' := fun i => pl.toArray[i]?) (fun i o h => by simpa using h) _ _ _ _ _ hc hl hp hr
      refine Yes.pure hH ?_ hr'.agg
      have hb : P.built t (ps.map fun (i, x) => (i, ρ' x)).toList = some c' := by
        simp only [Program.built, hi, hd, hx, he]
        exact hf
      simp [execOp, ho, run_build w t _ c' hb]
    · cases he
  · rename_i z n e hz ha
    obtain ⟨s, hs, h⟩ := Option.bind_eq_some_iff.1 h
    obtain ⟨cs, hc, h⟩ := Option.map_eq_some_iff.1 h
    injection h with h1 h
    injection h with h2 h3
    subst h2; subst h3
    obtain ⟨i, hi, hz'⟩ := Option.bind_eq_some_iff.1 hz
    obtain ⟨x, hx, rfl⟩ := Option.map_eq_some_iff.1 hz'
    obtain ⟨x', hx', hr⟩ := zr_rep hz w (RO A w m H) m H
    have : x' = x := by simp [zeroValue, typeInfo, hi, hx] at hx'; exact hx'.symm
    subst this
    obtain ⟨ie, hie, rfl⟩ := szT_info hs
    obtain ⟨c', hf, hr'⟩ := fill_rep (pl' := fun i => some (i * ie.size, ie.size)) (fun i o h => h) _ _ _ _ _ hc hl hp hr
    refine Yes.pure hH ?_ hr'.agg
    have hb : P.built t (ps.map fun (i, x) => (i, ρ' x)).toList = some c' := by
      simp only [Program.built, hi, arT_und ha, hx, hie]
      exact hf
    simp [execOp, ho, run_build w t _ c' hb]
  · cases h
theorem load_yes (hH : RepH P A w m H) (hρ : ∀ x, RepV P w (RO A w m H) m H (ρ x) (ρ' x)) (o : Oper) (t : TypeId) (a : Operand) (ho : o.op = .load t a) {C : Prop} {v : V} {H' : Heap} (h : stp P ρ o.op H = some (C, v, H')) (hC : C) : Yes P A w m H v H' ((execOp ρ' o).run P w) := by
  rw [ho] at h
  simp only [stp] at h
  have hx := hρ a
  split at h
  · rename_i b g off ha
    rw [ha] at hx
    obtain ⟨k, hk, h⟩ := Option.bind_eq_some_iff.1 h
    obtain ⟨⟨C', v'⟩, hl, h⟩ := Option.map_eq_some_iff.1 h
    injection h with h1 h
    injection h with h2 h3
    subst h1; subst h2; subst h3
    obtain ⟨q, hq, hx⟩ := p_rep hx hk
    obtain ⟨x, hrun, hr⟩ := loadVar_rep hl hC q 0 (hH.cells hk hq)
    refine Yes.pure hH ?_ hr
    rw [Nat.zero_add] at hrun
    simp [execOp, ho, hx, Instr.loadAt, Instr.sureAddr, hrun]
  · rename_i cs off ha
    rw [ha] at hx
    obtain ⟨⟨C', v'⟩, hl, h⟩ := Option.map_eq_some_iff.1 h
    injection h with h1 h
    injection h with h2 h3
    subst h1; subst h2; subst h3
    generalize hy : ρ' a = y at hx
    cases hx with
    | r ad xs hF hc hxs =>
      obtain ⟨x, hrun, hr⟩ := loadVar_rep hl hC ad.block ad.off (fun j u hj => ⟨xs j, hc j u hj, hxs j u hj⟩)
      refine Yes.pure hH ?_ hr
      simp [execOp, ho, hy, Instr.loadAt, Instr.sureAddr, hrun]
  · cases h
theorem get_splice (cur : List Value) (vs : List Value) (off j : Nat) (h : off + vs.length ≤ cur.length) :
    (cur.take off ++ vs ++ cur.drop (off + vs.length))[j]? = if off ≤ j ∧ j < off + vs.length then vs[j - off]? else cur[j]? := by
  by_cases c1 : j < off
  · rw [if_neg (by omega), List.append_assoc, List.getElem?_append_left (by simp; omega), List.getElem?_take, if_pos c1]
  · by_cases c2 : j < off + vs.length
    · rw [if_pos (by omega), List.append_assoc, List.getElem?_append_right (by simp; omega), List.getElem?_append_left (by simp; omega)]
      congr 1
      simp; omega
    · rw [if_neg (by omega), List.getElem?_append_right (by simp; omega), List.getElem?_drop]
      congr 1
      simp; omega
theorem get_spl {cs vs : List V} {off j : Nat} (h : off + vs.length ≤ cs.length) : (spl cs off vs)[j]? = if off ≤ j ∧ j < off + vs.length then vs[j - off]? else cs[j]? := by
  rw [spl_eq h]
  by_cases c1 : j < off
  · rw [if_neg (by omega), List.append_assoc, List.getElem?_append_left (by simp; omega), List.getElem?_take, if_pos c1]
  · by_cases c2 : j < off + vs.length
    · rw [if_pos (by omega), List.append_assoc, List.getElem?_append_right (by simp; omega), List.getElem?_append_left (by simp; omega)]
      congr 1
      simp; omega
    · rw [if_neg (by omega), List.getElem?_append_right (by simp; omega), List.getElem?_drop]
      congr 1
      simp; omega
theorem length_spl {cs vs : List V} {off : Nat} (h : off + vs.length ≤ cs.length) : (spl cs off vs).length = cs.length := by rw [spl_eq h]; simp; omega
/-- Cells that are written into a block of the call's own. -/
theorem write_yes (hH : RepH P A w m H) {b g off q : Nat} {k : Blk} {vs : List V} {as : List Value} (hk : H.at b g = some k) (hq : m b = some q) (hl : as.length = vs.length) (hr : ∀ (j : Nat) v, vs[j]? = some v → ∃ x, as[j]? = some x ∧ RepV P w (RO A w m H) m H v x)
    (h1 : ∀ x ∈ as, x.oneCell' = true) (hf : off + vs.length ≤ k.cs.length) : ∃ w', (storeCells ⟨q, off, none⟩ as).run P w = .ok () w' ∧ RepH P A w' m (H.set b { k with cs := spl k.cs off vs }) ∧ Keep w m H w' m (H.set b { k with cs := spl k.cs off vs }) := by
  obtain ⟨e1, e2, e3⟩ := at_some hk
  obtain ⟨_, cur, hc, hs, hcs⟩ := hH.own b q k e1 e2 hq
  have hst := run_storeCells_at P q off k.t as 0 cur w hc (by omega) h1
  simp only [Nat.add_zero] at hst
  have hsz : (cur.toList.take off ++ as ++ cur.toList.drop (off + as.length)).toArray.size = cur.size := by simp; omega
  refine ⟨_, hst, hH.row e1 e2 hq hc hsz (Nat.le_refl _) rfl (by rw [length_spl hf, hsz]; exact hs) (fun j v hj => ?_), Keep.row hH e1 e2 hq hc hsz (Nat.le_refl _) rfl⟩
  simp only [List.getElem?_toArray]
  rw [get_splice _ _ _ _ (by simp; omega)]
  replace hj : (spl k.cs off vs)[j]? = some v := hj
  rw [get_spl hf] at hj
  rw [hl]
  split
  · rename_i c
    rw [if_pos c] at hj
    exact hr _ v hj
  · rename_i c
    rw [if_neg c] at hj
    obtain ⟨x, a1, a2⟩ := hcs j v hj
    exact ⟨x, by rw [Array.getElem?_toList]; exact a1, a2⟩
theorem store_yes (hH : RepH P A w m H) (hρ : ∀ x, RepV P w (RO A w m H) m H (ρ x) (ρ' x)) (o : Oper) (t : TypeId) (a x : Operand) (ho : o.op = .store t a x) {C : Prop} {v : V} {H' : Heap} (h : stp P ρ o.op H = some (C, v, H')) (hC : C) : Yes P A w m H v H' ((execOp ρ' o).run P w) := by
  rw [ho] at h
  simp only [stp] at h
  split at h
  · rename_i b g off vs n ha hx hn
    obtain ⟨k, hk, h⟩ := Option.map_eq_some_iff.1 h
    injection h with h1 h
    injection h with h2 h3
    subst h1; subst h2; subst h3
    obtain ⟨hC1, hC2⟩ := hC
    have hp := hρ a
    rw [ha] at hp
    obtain ⟨q, hq, hp⟩ := p_rep hp hk
    obtain ⟨hr, h1⟩ := cells_rep (hρ x) hx
    obtain ⟨w', hst, hH', hK⟩ := write_yes (off := off) (vs := vs) (as := (ρ' x).cells.toList) hH hk hq (by rw [Array.length_toList, hr.1]) (fun j v hj => by obtain ⟨y, a1, a2⟩ := hr.get hj; exact ⟨y, by rw [Array.getElem?_toList]; exact a1, a2⟩) (hr.ones h1) (by omega)
    refine ⟨m, w', undef, .inr ⟨?_, rfl⟩, .any _, hH', hK⟩
    have hsz : (ρ' x).cells.size = n := by rw [hr.1, hC1]
    simp [execOp, ho, hp, Instr.storeAt, Instr.sureAddr, storeVar, run_sizeOf hn, hsz, hst]
  · cases h
end
end Go.Proofs.E
end
/- The machine of values: its operations, one by one (3). Of no function. -/
section
set_option linter.unusedVariables false
set_option linter.unusedSimpArgs false
set_option linter.unusedSectionVars false
namespace Go.Proofs.E
open Go
set_option linter.unusedVariables false
set_option linter.unusedSimpArgs false
section
variable {P : Program} {A : Amb} {w : World} {m : Nat → Option Nat} {H : Heap} {ρ : Operand → V} {ρ' : Operand → Value}
theorem nilCheck_yes (hH : RepH P A w m H) (hρ : ∀ x, RepV P w (RO A w m H) m H (ρ x) (ρ' x)) (o : Oper) (x : Operand) (ho : o.op = .nilCheck x) {C : Prop} {v : V} {H' : Heap} (h : stp P ρ o.op H = some (C, v, H')) (hC : C) : Yes P A w m H v H' ((execOp ρ' o).run P w) := by
  rw [ho] at h
  simp only [stp] at h
  have hx := hρ x
  split at h
  · rename_i b g off ha
    obtain ⟨k, hk, h⟩ := Option.map_eq_some_iff.1 h
    injection h with h1 h
    injection h with h2 h3
    subst h2; subst h3
    rw [ha] at hx
    obtain ⟨q, hq, hp⟩ := p_rep hx hk
    refine Yes.pure hH (x := ρ' x) ?_ hx
    simp [execOp, ho, hp]
  · rename_i cs off ha
    injection h with h
    injection h with h1 h
    injection h with h2 h3
    subst h2; subst h3
    rw [ha] at hx
    refine Yes.pure hH (x := ρ' x) ?_ hx
    generalize hy : ρ' x = y at hx
    cases hx with
    | r a xs hF hc hxs => simp [execOp, ho, hy]
  · rename_i f a c ha
    injection h with h
    injection h with h1 h
    injection h with h2 h3
    subst h2; subst h3
    rw [ha] at hx
    refine Yes.pure hH (x := ρ' x) ?_ hx
    generalize hy : ρ' x = y at hx
    cases hx with
    | f as cs e1 e2 e3 e4 => simp [execOp, ho, hy]
  · cases h
theorem run_binI {op : BinOp} {t : TypeId} {k : IntKind} {x y : Int} {C : Prop} {v : V} (h : binI op k x y = some (C, v)) (hC : C) (a b : Operand) :
    ∃ u, (do eqGuard op t a b (.int k x) (.int k y); binOp op t (.int k x) (.int k y) : Sem Value).run P w = .ok u w ∧ ∀ F m H, RepV P w F m H v u := by
  have hg : ∀ op, eqGuard op t a b (.int k x) (.int k y) = pure () := fun op => by cases op <;> rfl
  simp only [hg, Sem.run_bind, Sem.run_pure, Result.andThen_ok]
  cases op <;> unfold binI at h <;> first
    | (cases h; done)
    | (injection h with h; injection h with h1 h2; subst h1; subst h2; refine ⟨_, ?_, fun F m H => RepV.i _ _⟩; first
        | (simp only [binOp_add, binOp_sub, binOp_mul, Op.intArith, Sem.run_pure]; done)
        | (simp only [binOp_and, binOp_or, binOp_xor, binOp_andNot, Op.intBits, bits, Sem.run_pure]; done)
        | (simp only [binOp_quo, binOp_rem, Op.intDiv, hC, if_false, Sem.run_pure]; done))
    | (injection h with h; injection h with h1 h2; subst h1; subst h2; refine ⟨_, ?_, fun F m H => RepV.b _⟩; simp only [binOp_eql, binOp_neq, binOp_lss, binOp_leq, binOp_gtr, binOp_geq, Sem.run_pure])
theorem run_equalIn_bool {t : TypeId} (h : P.underlying t = some .bool) (d : Nat) (a b : Bool) (w : World) : (Op.equalIn (d + 1) t (.bool a) (.bool b)).run P w = .ok (a == b) w := by
  simp only [Op.equalIn, Sem.run_bind, run_underlying h, Result.andThen_ok]
  rfl
theorem run_equal_bool {t : TypeId} (h : P.underlying t = some .bool) (a b : Bool) (w : World) : (Op.equal t (.bool a) (.bool b)).run P w = .ok (a == b) w := run_equalIn_bool h 9999 a b w
theorem run_eql_bool {t : TypeId} (h : P.underlying t = some .bool) (a b : Bool) (w : World) : (binOp .eql t (.bool a) (.bool b)).run P w = .ok (.bool (a == b)) w := by
  show (do pure (Value.bool (← Op.equal t (.bool a) (.bool b))) : Sem Value).run P w = _
  simp only [Sem.run_bind, run_equal_bool h, Result.andThen_ok]
  rfl
theorem run_neq_bool {t : TypeId} (h : P.underlying t = some .bool) (a b : Bool) (w : World) : (binOp .neq t (.bool a) (.bool b)).run P w = .ok (.bool (!(a == b))) w := by
  show (do pure (Value.bool (!(← Op.equal t (.bool a) (.bool b)))) : Sem Value).run P w = _
  simp only [Sem.run_bind, run_equal_bool h, Result.andThen_ok]
  rfl
theorem eqGuard_b (op : BinOp) (t : TypeId) (x y : Operand) (a : Bool) (b : Value) : eqGuard op t x y (.bool a) b = pure () := by cases op <;> rfl
theorem ifT_und {t : TypeId} (h : ifT P t = true) : ∃ ms, P.underlying t = some (.interface ms) := by
  unfold ifT at h
  split at h
  · exact ⟨_, by assumption⟩
  · cases h
theorem run_equalIn_ni {t : TypeId} {ms} (h : P.underlying t = some (.interface ms)) (d : Nat) (w : World) : (Op.equalIn (d + 1) t .nilIface .nilIface).run P w = .ok true w := by
  simp only [Op.equalIn, Sem.run_bind, run_underlying h, Result.andThen_ok]
  rfl
theorem run_equalIn_iv {t u : TypeId} {ms} (h : P.underlying t = some (.interface ms)) (d : Nat) (x : Value) (w : World) : (Op.equalIn (d + 1) t (.iface u x) .nilIface).run P w = .ok false w := by
  simp only [Op.equalIn, Sem.run_bind, run_underlying h, Result.andThen_ok]
  rfl
theorem rep_ni {F : Nat → Prop} {x : Value} (h : RepV P w F m H .ni x) : x = .nilIface := by cases h; rfl
theorem rep_iv {F : Nat → Prop} {t : TypeId} {v : V} {x : Value} (h : RepV P w F m H (.iv t v) x) : ∃ y, x = .iface t y := by cases h; exact ⟨_, rfl⟩
theorem run_equal_ni {t : TypeId} (h : ifT P t = true) (w : World) : (Op.equal t .nilIface .nilIface).run P w = .ok true w := by
  obtain ⟨ms, h⟩ := ifT_und h
  exact run_equalIn_ni h 9999 w
theorem run_equal_iv {t u : TypeId} (h : ifT P t = true) (x : Value) (w : World) : (Op.equal t (.iface u x) .nilIface).run P w = .ok false w := by
  obtain ⟨ms, h⟩ := ifT_und h
  exact run_equalIn_iv h 9999 x w
theorem nil_run {x y : Operand} {op : BinOp} {t : TypeId} {b : Bool} {a : Value} {C : Prop} {v : V} (h : nilB P op t b = some (C, v)) (hC : C) (hr : ifT P t = true → ∀ w, (Op.equal t a .nilIface).run P w = .ok b w) (hg : eqGuard op t x y a .nilIface = pure ()) (hs : ∀ op, (op = .eql ∨ op = .neq) → binOp op t a .nilIface = if op = .eql then (do pure (.bool (← Op.equal t a .nilIface))) else (do pure (.bool (!(← Op.equal t a .nilIface))))) (w : World) :
    ∃ u, (do eqGuard op t x y a .nilIface; binOp op t a .nilIface : Sem Value).run P w = .ok u w ∧ ∀ F m H, RepV P w F m H v u := by
  unfold nilB at h
  split at h
  · injection h with h; injection h with h1 h2; subst h1; subst h2
    refine ⟨_, ?_, fun F m H => RepV.b _⟩
    rw [hg, hs _ (.inl rfl)]
    simp only [Sem.run_bind, Sem.run_pure, Result.andThen_ok, if_true, hr hC]
  · injection h with h; injection h with h1 h2; subst h1; subst h2
    refine ⟨_, ?_, fun F m H => RepV.b _⟩
    rw [hg, hs _ (.inr rfl)]
    simp only [Sem.run_bind, Sem.run_pure, Result.andThen_ok, reduceCtorEq, if_false, hr hC]
  · cases h
theorem run_part_one {t : TypeId} {as : Array Value} {off : Nat} {v : Value} (h : aggT P t = some false ∨ True) (hu : ∃ k, P.underlying t = some (.int k) ∨ P.underlying t = some .bool) (hv : as[off]? = some v) (w : World) : (part t as off).run P w = .ok v w := by
  obtain ⟨k, hu⟩ := hu
  rcases hu with hu | hu <;> simp [part, isAgg, Sem.run_bind, run_underlying hu, hv]
theorem gV_some {xs : List V} {off : Nat} {v : V} (h : gV xs off = v) (hv : v ≠ .any) : xs[off]? = some v := by
  unfold gV at h
  rw [List.getD_eq_getElem?_getD] at h
  cases hx : xs[off]? with
  | none => rw [hx] at h; exact absurd h.symm hv
  | some u => rw [hx] at h; rw [← h]; rfl
theorem eqF_run {F : Nat → Prop} {d : Nat} {as bs : Array Value} {xs ys : List V} (ha : RepL P w F m H xs as) (hb : RepL P w F m H ys bs) : ∀ (fs : List Field) (r : Bool), (fs.all fun f => f.name != "_") = true → eqF P (fs.map fun f => (f.offset, f.type)) xs ys = some r → (Op.eqFields (d + 1) as bs fs).run P w = .ok r w
  | [], r, _, h => by
    injection h with h; subst h; rfl
  | f :: fs, r, hn, h => by
    simp only [List.all_cons, Bool.and_eq_true] at hn
    have hne : f.name ≠ "_" := by simpa using hn.1
    simp only [List.map_cons, eqF] at h
    have go : ∀ (va vb : Value) (p r' : Bool), (∃ k, P.underlying f.type = some (.int k) ∨ P.underlying f.type = some .bool) → as[f.offset]? = some va → bs[f.offset]? = some vb → (Op.equalIn (d + 1) f.type va vb).run P w = .ok p w → eqF P (fs.map fun f => (f.offset, f.type)) xs ys = some r' → r = (p && r') → (Op.eqFields (d + 1) as bs (f :: fs)).run P w = .ok r w := by
      intro va vb p r' hu h1 h2 h3 h4 h5
      simp only [Op.eqFields, if_pos hne, Sem.run_bind, run_part_one (P := P) (.inr trivial) hu h1, run_part_one (P := P) (.inr trivial) hu h2, h3, Result.andThen_ok]
      cases p
      · simp [h5]
      · simp only [Bool.not_true, Bool.false_eq_true, if_false]
        rw [eqF_run ha hb fs r' hn.2 h4, h5]; rfl
    split at h
    · rename_i k a k' b e1 e2
      split at h
      · rename_i hk
        obtain ⟨rfl, hik⟩ := hk
        obtain ⟨r', h4, h5⟩ := Option.map_eq_some_iff.1 h
        obtain ⟨va, ga, ra⟩ := ha.get (gV_some e1 (by simp))
        obtain ⟨vb, gb, rb⟩ := hb.get (gV_some e2 (by simp))
        rw [rep_i ra] at ga; rw [rep_i rb] at gb
        refine go _ _ (a == b) r' ⟨k, .inl (ikT_und hik)⟩ ga gb (run_equalIn_int w d f.type k k a b (ikT_und hik)) h4 ?_
        rw [← h5]; rfl
      · cases h
    · rename_i a b e1 e2
      split at h
      · rename_i hk
        obtain ⟨r', h4, h5⟩ := Option.map_eq_some_iff.1 h
        obtain ⟨va, ga, ra⟩ := ha.get (gV_some e1 (by simp))
        obtain ⟨vb, gb, rb⟩ := hb.get (gV_some e2 (by simp))
        rw [rep_b ra] at ga; rw [rep_b rb] at gb
        exact go _ _ (a == b) r' ⟨.i64, .inr (bolT_und hk)⟩ ga gb (run_equalIn_bool' w d f.type a b (bolT_und hk)) h4 h5.symm
      · cases h
    · cases h
theorem agg_run {F : Nat → Prop} {op : BinOp} {t : TypeId} {xs ys : List V} {x' y' : Value} (hx : RepV P w F m H (.agg xs) x') (hy : RepV P w F m H (.agg ys) y') {C : Prop} {v : V} (h : aggB P op t xs ys = some (C, v)) (x y : Operand) :
    ∃ u, (do eqGuard op t x y x' y'; binOp op t x' y' : Sem Value).run P w = .ok u w ∧ ∀ F m H, RepV P w F m H v u := by
  obtain ⟨as, rfl, ha⟩ := rep_agg hx
  obtain ⟨bs, rfl, hb⟩ := rep_agg hy
  unfold aggB at h
  split at h
  · rename_i fs hf
    split at h
    · rename_i r hr
      unfold eqT at hf
      split at hf
      · rename_i fs0 hu
        split at hf
        · rename_i hc
          obtain ⟨c1, c2, c3⟩ := hc
          injection hf with hf
          subst hf
          have hff : P.fieldsOf t = fs0 := by simp [Program.fieldsOf, hu]
          have hrun : (Op.equalIn 10000 t (.agg as) (.agg bs)).run P w = .ok r w := by
            rw [run_equalIn_struct w 9999 t as bs (by rw [hff]; exact hu) c2, hff]
            exact eqF_run (d := 9998) ha hb _ r c1 hr
          split at h
          · injection h with h; injection h with h1 h2; subst h2
            exact ⟨.bool r, by rw [Sem.run_bind, run_eqGuard_agg w .eql t x y as bs c3]; simp only [Result.andThen_ok]; rw [run_eql_struct w t as bs, hrun]; rfl, fun _ _ _ => RepV.b _⟩
          · injection h with h; injection h with h1 h2; subst h2
            exact ⟨.bool (!r), by rw [Sem.run_bind, run_eqGuard_agg w .neq t x y as bs c3]; simp only [Result.andThen_ok]; rw [run_neq_struct w t as bs, hrun]; rfl, fun _ _ _ => RepV.b _⟩
          · cases h
        · cases hf
      · cases hf
    · cases h
  · cases h
theorem run_equalIn_nil (w : World) (d : Nat) (t e : TypeId) (a : Option Addr) (n c : Nat) (h : P.underlying t = some (.slice e)) : (Op.equalIn (d + 1) t (.slice a n c) (.slice none 0 0)).run P w = .ok a.isNone w := by
  simp only [Op.equalIn, Sem.run_bind, run_underlying h, Result.andThen_ok]
  cases a <;> rfl
theorem run_equal_nil (w : World) (t e : TypeId) (a : Option Addr) (n c : Nat) (h : P.underlying t = some (.slice e)) : (Op.equal t (.slice a n c) (.slice none 0 0)).run P w = .ok a.isNone w := run_equalIn_nil w 9999 t e a n c h
theorem run_eql_nil (w : World) (t e : TypeId) (a : Option Addr) (n c : Nat) (h : P.underlying t = some (.slice e)) : (binOp .eql t (.slice a n c) (.slice none 0 0)).run P w = .ok (.bool a.isNone) w := by
  show (do pure (Value.bool (← Op.equal t (.slice a n c) (.slice none 0 0))) : Sem Value).run P w = _
  simp only [Sem.run_bind, run_equal_nil w t e a n c h, Result.andThen_ok]; rfl
theorem run_neq_nil (w : World) (t e : TypeId) (a : Option Addr) (n c : Nat) (h : P.underlying t = some (.slice e)) : (binOp .neq t (.slice a n c) (.slice none 0 0)).run P w = .ok (.bool (!a.isNone)) w := by
  show (do pure (Value.bool (!(← Op.equal t (.slice a n c) (.slice none 0 0)))) : Sem Value).run P w = _
  simp only [Sem.run_bind, run_equal_nil w t e a n c h, Result.andThen_ok]; rfl
theorem bin_yes (hH : RepH P A w m H) (hρ : ∀ x, RepV P w (RO A w m H) m H (ρ x) (ρ' x)) (o : Oper) (op : BinOp) (t : TypeId) (x y : Operand) (yt : TypeId) (ho : o.op = .binOp op t x y yt) {C : Prop} {v : V} {H' : Heap} (h : stp P ρ o.op H = some (C, v, H')) (hC : C) : Yes P A w m H v H' ((execOp ρ' o).run P w) := by
  rw [ho] at h
  simp only [stp] at h
  obtain ⟨⟨C', v'⟩, hb, h⟩ := Option.map_eq_some_iff.1 h
  injection h with h1 h
  injection h with h2 h3
  subst h1; subst h2; subst h3
  have hx := hρ x
  have hy := hρ y
  suffices hs : ∃ u, (do eqGuard op t x y (ρ' x) (ρ' y); binOp op t (ρ' x) (ρ' y) : Sem Value).run P w = .ok u w ∧ RepV P w (RO A w m H) m H v' u by
    obtain ⟨u, hu, hr⟩ := hs
    refine Yes.pure hH (x := u) ?_ hr
    simp only [execOp, ho]
    simp only [Sem.run_bind] at hu ⊢
    rw [hu]
    rfl
  unfold binV at hb
  split at hb
  · rename_i e1 e2
    rw [e1] at hx; rw [e2] at hy
    split at hb
    · rename_i hc
      rw [rep_ni hx, rep_ni hy]
      have hg : eqGuard op t x y .nilIface .nilIface = pure () := by
        cases op <;> try rfl
        all_goals
          cases x <;> cases y <;> first | rfl | (simp [isC] at hc)
      obtain ⟨u, a1, a2⟩ := nil_run (P := P) (x := x) (y := y) hb hC (fun h w => run_equal_ni h w) hg (fun op ho => by rcases ho with rfl | rfl <;> rfl) w
      exact ⟨u, a1, a2 _ _ _⟩
    · cases hb
  · rename_i e1 e2
    rw [e1] at hx; rw [e2] at hy
    obtain ⟨z, hz⟩ := rep_iv hx
    rw [hz, rep_ni hy]
    obtain ⟨u, a1, a2⟩ := nil_run (P := P) (x := x) (y := y) hb hC (fun h w => run_equal_iv h _ w) (by cases op <;> rfl) (fun op ho => by rcases ho with rfl | rfl <;> rfl) w
    exact ⟨u, a1, a2 _ _ _⟩
  · rename_i k a k' b e1 e2
    rw [e1] at hx; rw [e2] at hy
    split at hb
    · rename_i hs
      injection hb with hb
      injection hb with h1 h2
      subst h1; subst h2
      rw [rep_i hx, rep_i hy]
      have hg : eqGuard op t x y (.int k a) (.int k' b) = pure () := by cases op <;> rfl
      have hC2 : ¬ b < 0 := Int.not_lt.2 (show 0 ≤ b from hC)
      cases op <;> first | (cases hs; done) | skip
      · exact ⟨_, by rw [Sem.run_bind, hg]; simp [binOp, Op.shift, hC2]; rfl, by unfold shV; exact RepV.i _ _⟩
      · exact ⟨_, by rw [Sem.run_bind, hg]; simp [binOp, Op.shift, hC2]; rfl, by unfold shV; exact RepV.i _ _⟩
    · obtain ⟨⟨C'', v''⟩, hb2, h⟩ := Option.map_eq_some_iff.1 hb
      injection h with h1 h2
      subst h1; subst h2
      obtain ⟨hk, hC⟩ := hC
      subst hk
      rw [rep_i hx, rep_i hy]
      obtain ⟨u, a1, a2⟩ := run_binI (P := P) (w := w) (t := t) hb2 hC x y
      exact ⟨u, a1, a2 _ _ _⟩
  · rename_i a b e1 e2
    rw [e1] at hx; rw [e2] at hy
    unfold boV at hb
    split at hb
    · injection hb with hb
      injection hb with h1 h2
      subst h1; subst h2
      rw [rep_b hx, rep_b hy]
      exact ⟨_, by rw [Sem.run_bind, eqGuard_b]; exact run_eql_bool (bolT_und hC) a b w, RepV.b _⟩
    · injection hb with hb
      injection hb with h1 h2
      subst h1; subst h2
      rw [rep_b hx, rep_b hy]
      exact ⟨_, by rw [Sem.run_bind, eqGuard_b]; exact run_neq_bool (bolT_und hC) a b w, RepV.b _⟩
    · cases hb
  · rename_i xs ys e1 e2
    rw [e1] at hx; rw [e2] at hy
    obtain ⟨u, a1, a2⟩ := agg_run hx hy hb x y
    exact ⟨u, a1, a2 _ _ _⟩
  · rename_i a b e1 e2
    rw [e1] at hx; rw [e2] at hy
    rw [rep_s hx, rep_s hy]
    have hg : eqGuard op t x y (.string a) (.string b) = pure () := by cases op <;> rfl
    simp only [hg, Sem.run_bind, Sem.run_pure, Result.andThen_ok]
    cases op <;> unfold strO at hb <;> first
      | (cases hb; done)
      | (injection hb with hb; injection hb with h1 h2; subst h1; subst h2; refine ⟨_, ?_, RepV.b _⟩; simp [binOp, Op.stringOp]; done)
      | (injection hb with hb; injection hb with h1 h2; subst h1; subst h2; refine ⟨_, ?_, RepV.s _⟩; have hC' : ¬ ((a.size + b.size : Nat) : Int) > IntKind.i64.max := Int.not_lt.2 hC; simp only [binOp, Op.stringOp, hC', if_false, Sem.run_pure])
  · rename_i f n cs e1 e2
    rw [e1] at hx; rw [e2] at hy
    rw [rep_ns hy]
    cases hx' : ρ' x <;> rw [hx'] at hx <;> try (cases hx; done)
    rename_i A' l c
    have hl : l = n ∧ (A' = none → n = 0) := by cases hx with | sl _ _ xs h1 h2 h3 h4 h5 => exact ⟨rfl, h5⟩
    have hg : eqGuard op t x y (.slice A' l c) (.slice none 0 0) = pure () := by cases op <;> rfl
    simp only [hg, Sem.run_bind, Sem.run_pure, Result.andThen_ok]
    unfold nilS at hb
    split at hb
    · injection hb with hb; injection hb with h1 h2; subst h1; subst h2
      obtain ⟨e, he⟩ := Option.isSome_iff_exists.1 hC
      refine ⟨_, run_eql_nil w t e A' l c (elT_und he), ?_⟩
      by_cases h0 : n = 0
      · rw [if_pos h0]; exact .bq _
      · rw [if_neg h0]
        cases A' with
        | none => exact absurd (hl.2 rfl) h0
        | some a => exact .b _
    · injection hb with hb; injection hb with h1 h2; subst h1; subst h2
      obtain ⟨e, he⟩ := Option.isSome_iff_exists.1 hC
      refine ⟨_, run_neq_nil w t e A' l c (elT_und he), ?_⟩
      by_cases h0 : n = 0
      · rw [if_pos h0]; exact .bq _
      · rw [if_neg h0]
        cases A' with
        | none => exact absurd (hl.2 rfl) h0
        | some a => exact .b _
    · cases hb
  · cases hb
theorem un_yes (hH : RepH P A w m H) (hρ : ∀ x, RepV P w (RO A w m H) m H (ρ x) (ρ' x)) (o : Oper) (op : UnOp) (t : TypeId) (x : Operand) (ho : o.op = .unOp op t x) {C : Prop} {v : V} {H' : Heap} (h : stp P ρ o.op H = some (C, v, H')) (hC : C) : Yes P A w m H v H' ((execOp ρ' o).run P w) := by
  rw [ho] at h
  simp only [stp] at h
  obtain ⟨v', hb, h⟩ := Option.map_eq_some_iff.1 h
  injection h with h1 h
  injection h with h2 h3
  subst h2; subst h3
  have hx := hρ x
  unfold unV at hb
  split at hb
  · rename_i k n e1
    rw [e1] at hx
    injection hb with hb
    subst hb
    refine Yes.pure hH (x := .int k (k.wrap (0 - n))) ?_ (RepV.i _ _)
    simp [execOp, ho, rep_i hx, Op.unary, Op.intArith]
  · rename_i k n e1
    rw [e1] at hx
    injection hb with hb
    subst hb
    refine Yes.pure hH (x := .int k (bits .xor k (if k.signed then -1 else k.max) n)) ?_ (RepV.i _ _)
    simp [execOp, ho, rep_i hx, Op.unary, Op.intBits, bits]
  · rename_i b e1
    rw [e1] at hx
    injection hb with hb
    subst hb
    refine Yes.pure hH (x := .bool (!b)) ?_ (RepV.b _)
    simp [execOp, ho, rep_b hx, Op.unary]
  · cases hb
theorem cv_yes (hH : RepH P A w m H) (hρ : ∀ x, RepV P w (RO A w m H) m H (ρ x) (ρ' x)) (o : Oper) (s t : TypeId) (x : Operand) (ho : o.op = .convert s t x) {v' : V} (hb : cvV P s t (ρ x) = some v') : Yes P A w m H v' H ((execOp ρ' o).run P w) := by
  have hx := hρ x
  unfold cvV at hb
  split at hb
  · rename_i b k k' n e1 e2 e3
    rw [e3] at hx
    injection hb with hb
    subst hb
    refine Yes.pure hH (x := .int k (k.wrap n)) ?_ (RepV.i _ _)
    simp only [aggT, Option.map_eq_some_iff] at e1
    obtain ⟨d, hd, _⟩ := e1
    simp [execOp, ho, rep_i hx, convert, run_underlying hd, run_underlying (ikT_und e2), Conv.intToInt]
  · cases hb
theorem map_rep (hρ : ∀ x, RepV P w (RO A w m H) m H (ρ x) (ρ' x)) (a : Array Operand) : RepL P w (RO A w m H) m H (a.toList.map ρ) (a.map ρ') := by
  refine RepL.of (by simp) fun j v hj => ?_
  rw [List.getElem?_map, Option.map_eq_some_iff] at hj
  obtain ⟨x, hx, rfl⟩ := hj
  rw [Array.getElem?_toList] at hx
  exact ⟨ρ' x, by simp [hx], hρ x⟩
theorem func_yes (hH : RepH P A w m H) (hρ : ∀ x, RepV P w (RO A w m H) m H (ρ x) (ρ' x)) (o : Oper) (fn : Fn) (a c : Array Operand) (ho : o.op = .makeFunc fn a c) {C : Prop} {v : V} {H' : Heap} (h : stp P ρ o.op H = some (C, v, H')) (hC : C) : Yes P A w m H v H' ((execOp ρ' o).run P w) := by
  rw [ho] at h
  simp only [stp] at h
  injection h with h
  injection h with h1 h
  injection h with h2 h3
  subst h2; subst h3
  have ra := map_rep hρ a
  have rc := map_rep hρ c
  exact Yes.pure hH (by simp [execOp, ho, Instr.makeFunc]) (.f _ _ ra.1 rc.1 ra.2 rc.2)
theorem extract_yes (hH : RepH P A w m H) (hρ : ∀ x, RepV P w (RO A w m H) m H (ρ x) (ρ' x)) (o : Oper) (x : Operand) (i : Nat) (ho : o.op = .extract x i) {C : Prop} {v : V} {H' : Heap} (h : stp P ρ o.op H = some (C, v, H')) (hC : C) : Yes P A w m H v H' ((execOp ρ' o).run P w) := by
  rw [ho] at h
  simp only [stp] at h
  have hx := hρ x
  split at h
  · rename_i vs ha
    obtain ⟨v', hv, h⟩ := Option.map_eq_some_iff.1 h
    injection h with h1 h
    injection h with h2 h3
    subst h2; subst h3
    rw [ha] at hx
    obtain ⟨as, has, hl⟩ := rep_tup hx
    obtain ⟨y, hy, hr⟩ := hl.get hv
    exact Yes.pure hH (x := y) (by simp [execOp, ho, has, Instr.extract, hy]) hr
  · cases h
theorem field_yes (hH : RepH P A w m H) (hρ : ∀ x, RepV P w (RO A w m H) m H (ρ x) (ρ' x)) (o : Oper) (t : TypeId) (x : Operand) (f : Nat) (ho : o.op = .fieldAddr t x f) {C : Prop} {v : V} {H' : Heap} (h : stp P ρ o.op H = some (C, v, H')) (hC : C) : Yes P A w m H v H' ((execOp ρ' o).run P w) := by
  rw [ho] at h
  simp only [stp] at h
  obtain ⟨⟨off, u⟩, hf, h⟩ := Option.bind_eq_some_iff.1 h
  obtain ⟨fs, fx, e1, e2, e3, e4, i, e5, e6⟩ := fd_und hf
  have hx := hρ x
  have hsz : (sizeOf u).run P w = .ok i.size w := by simp [sizeOf, typeInfo, e5]
  split at h
  · rename_i b g o1 ha
    obtain ⟨k, hk, h⟩ := Option.map_eq_some_iff.1 h
    injection h with h1 h
    injection h with h2 h3
    subst h2; subst h3
    rw [ha] at hx
    obtain ⟨q, hq, hp⟩ := p_rep hx hk
    obtain ⟨a1, a2, a3⟩ := at_some hk
    refine Yes.pure hH (x := .pointer (some ⟨q, o1 + off, none⟩)) ?_ (.p _ (List.getElem?_eq_some_iff.1 a1).1 fun k' hk' => ?_)
    · simp [execOp, ho, hp, Instr.fieldAt, run_underlying e1, e2, Instr.sureAddr, fieldPlace, e4, hsz, e6, e3, Addr.add_lit]
    · obtain rfl : k = k' := Option.some.inj (a1.symm.trans hk')
      exact ⟨by omega, fun _ _ => ⟨q, hq, rfl⟩⟩
  · rename_i cs o1 ha
    injection h with h
    injection h with h1 h
    injection h with h2 h3
    subst h2; subst h3
    rw [ha] at hx
    generalize hy : ρ' x = y at hx
    cases hx with
    | r ad xs hF hc hxs =>
      refine Yes.pure hH (x := .pointer (some ⟨ad.block, ad.off + (o1 + off), none⟩)) ?_ (.r ad xs hF hc hxs)
      simp [execOp, ho, hy, Instr.fieldAt, run_underlying e1, e2, Instr.sureAddr, fieldPlace, e4, hsz, e6, e3, Addr.add_lit, Nat.add_assoc]
  · cases h
end
end Go.Proofs.E
end
/- The machine of values: its operations, one by one (4): places, slices. Of no function. -/
section
set_option linter.unusedVariables false
set_option linter.unusedSimpArgs false
set_option linter.unusedSectionVars false
namespace Go.Proofs.E
open Go
set_option linter.unusedVariables false
set_option linter.unusedSimpArgs false
section
variable {P : Program} {A : Amb} {w : World} {m : Nat → Option Nat} {H : Heap} {F : Nat → Prop} {ρ : Operand → V} {ρ' : Operand → Value}
/-- A part of a value. -/
theorem part_rep {t : TypeId} {cs : List V} {as : Array Value} {off : Nat} {C : Prop} {v : V} (h : ldV P t cs off = some (C, v)) (hC : C) (hr : RepL P w F m H cs as) : ∃ x, (part t as off).run P w = .ok x w ∧ RepV P w F m H v x := by
  unfold ldV at h
  split at h
  · rename_i n h1 h2
    injection h with h
    injection h with e1 e2
    subst e1; subst e2
    refine ⟨.agg (as.extract off (off + n)), by simp [part, run_isAgg h1, run_sizeOf h2], RepL.agg (RepL.of (by simp [hr.1]; omega) fun j v hj => ?_)⟩
    rw [List.getElem?_take] at hj
    split at hj
    · rename_i hjn
      rw [List.getElem?_drop] at hj
      obtain ⟨x, a1, a2⟩ := hr.get hj
      refine ⟨x, ?_, a2⟩
      have hlt := (Array.getElem?_eq_some_iff.1 a1).1
      rw [Array.getElem?_extract, if_pos (by omega), a1]
    · cases hj
  · rename_i n h1 h2
    injection h with h
    injection h with e1 e2
    subst e1; subst e2
    obtain ⟨x, a1, a2⟩ := hr.get (List.getElem?_eq_getElem hC)
    refine ⟨x, by simp [part, run_isAgg h1, a1], ?_⟩
    unfold gV
    rw [List.getD_eq_getElem?_getD, List.getElem?_eq_getElem hC]
    exact a2
  · cases h
theorem fld_yes (hH : RepH P A w m H) (hρ : ∀ x, RepV P w (RO A w m H) m H (ρ x) (ρ' x)) (o : Oper) (t : TypeId) (x : Operand) (f : Nat) (ho : o.op = .field t x f) {C : Prop} {v : V} {H' : Heap} (h : stp P ρ o.op H = some (C, v, H')) (hC : C) : Yes P A w m H v H' ((execOp ρ' o).run P w) := by
  rw [ho] at h
  simp only [stp] at h
  obtain ⟨⟨off, u⟩, hf, h⟩ := Option.bind_eq_some_iff.1 h
  obtain ⟨fs, fx, e1, e2, e3, e4, i, e5, e6⟩ := fd_und hf
  have hx := hρ x
  split at h
  · rename_i cs ha
    obtain ⟨⟨C', v'⟩, hl, h⟩ := Option.map_eq_some_iff.1 h
    injection h with h1 h
    injection h with h2 h3
    subst h1; subst h2; subst h3
    rw [ha] at hx
    obtain ⟨as, has, hL⟩ := rep_agg hx
    obtain ⟨y, hy, hr⟩ := part_rep hl hC hL
    refine Yes.pure hH (x := y) ?_ hr
    simp [execOp, ho, has, Instr.field, run_underlying e1, e2, asAgg, e3, e4, hy]
  · cases h
theorem index_yes (hH : RepH P A w m H) (hρ : ∀ x, RepV P w (RO A w m H) m H (ρ x) (ρ' x)) (o : Oper) (t : TypeId) (x ix : Operand) (ho : o.op = .index t x ix) {C : Prop} {v : V} {H' : Heap} (h : stp P ρ o.op H = some (C, v, H')) (hC : C) : Yes P A w m H v H' ((execOp ρ' o).run P w) := by
  rw [ho] at h
  simp only [stp] at h
  have hx := hρ x
  have hi := hρ ix
  split at h
  · rename_i k j n e cs e1 e2 e3
    obtain ⟨z, hz, h⟩ := Option.bind_eq_some_iff.1 h
    obtain ⟨⟨C', v'⟩, hl, h⟩ := Option.map_eq_some_iff.1 h
    injection h with h1 h
    injection h with h2 h3
    subst h1; subst h2; subst h3
    rw [e3] at hx; rw [e1] at hi
    obtain ⟨as, has, hL⟩ := rep_agg hx
    obtain ⟨y, hy, hr⟩ := part_rep hl hC.2.2 hL
    refine Yes.pure hH (x := y) ?_ hr
    have hc : 0 ≤ j ∧ j < (n : Int) := ⟨hC.1, hC.2.1⟩
    simp [execOp, ho, has, rep_i hi, Instr.index, asIntOf, run_underlying (arT_und e2), hc, run_sizeOf hz, hy]
  · cases h
theorem o_rep {b g off n : Nat} {k : Blk} {x : Value} (hr : RepV P w F m H (.o b g off n) x) (h : H.at b g = some k) : ∃ A c, x = .slice A n c ∧ n ≤ c ∧ c ≤ maxLen ∧
    ((A = none ∧ n = 0 ∧ c = 0 ∧ m b = none) ∨ (n = 0 ∧ 0 < off) ∨ ∃ q cur, m b = some q ∧ A = some ⟨q, off, none⟩ ∧ w.heap[q]? = some (.cells cur k.t (0, 0)) ∧ (arT P k.t = none → off + c * P.cellsOf k.t ≤ cur.size)) := by
  obtain ⟨h1, h2, h3⟩ := at_some h
  cases hr with
  | o A c hb hc hm hk => exact ⟨A, c, rfl, hc, hm, (hk k h1).2 h2 h3⟩
theorem idx_yes (hH : RepH P A w m H) (hρ : ∀ x, RepV P w (RO A w m H) m H (ρ x) (ρ' x)) (o : Oper) (t : TypeId) (x ix : Operand) (ho : o.op = .indexAddr t x ix) {C : Prop} {v : V} {H' : Heap} (h : stp P ρ o.op H = some (C, v, H')) (hC : C) : Yes P A w m H v H' ((execOp ρ' o).run P w) := by
  rw [ho] at h
  simp only [stp] at h
  have hx := hρ x
  have hi := hρ ix
  split at h
  · rename_i kk j e1
    rw [e1] at hi
    split at h
    · rename_i e _ f n cs h2 h4
      obtain ⟨z, hz, h⟩ := Option.map_eq_some_iff.1 h
      injection h with h1 h
      injection h with h2' h3
      subst h1; subst h2'; subst h3
      rw [h4] at hx
      generalize hy : ρ' x = y at hx
      cases hx with
      | sl A' c xs hl hf hA hxs hn =>
        cases A' with
        | none => have := hn rfl; omega
        | some a =>
          obtain ⟨a', ea, hF, hcell⟩ := hA 0 _ (List.getElem?_eq_getElem hC.2.2)
          obtain rfl : a = a' := Option.some.inj ea
          have hsp : a.spot = none := by
            cases hs : a.spot with
            | none => rfl
            | some s =>
              have : w.cell? (a.add 0) = none := by
                unfold World.cell? Addr.add
                simp only [if_true, hs, Option.isSome_some]
                split <;> rfl
              rw [this] at hcell
              cases hcell
          obtain ⟨ab, ao, asp⟩ := a
          simp only at hsp
          subst hsp
          refine Yes.pure hH (x := .pointer (some ⟨ab, ao + j.toNat * z, none⟩)) ?_ (.r ⟨ab, ao, none⟩ xs hF (fun i v hv => ?_) hxs)
          · simp [execOp, ho, hy, rep_i hi, Instr.indexAt, asIntOf, run_underlying (elT_und h2), hC, run_sizeOf hz, Addr.add_lit]
          · obtain ⟨a', ea, _, hcell⟩ := hA i v hv
            injection ea with ea
            subst ea
            rw [Addr.add_lit] at hcell
            exact hcell
    · rename_i e _ b g off n h2 h4
      obtain ⟨k, hk, h⟩ := Option.bind_eq_some_iff.1 h
      obtain ⟨z, hz, h⟩ := Option.map_eq_some_iff.1 h
      injection h with h1 h
      injection h with h2' h3
      subst h1; subst h2'; subst h3
      rw [h4] at hx
      obtain ⟨A', c, hy, hc, hm, hd⟩ := o_rep hx hk
      obtain ⟨a1, a2, a3⟩ := at_some hk
      rcases hd with ⟨_, d2, _⟩ | ⟨d, _⟩ | ⟨q, cur, d1, d2, d3, d4⟩
      · omega
      · omega
      · subst d2
        refine Yes.pure hH (x := .pointer (some ⟨q, off + j.toNat * z, none⟩)) ?_ (.p _ (List.getElem?_eq_some_iff.1 a1).1 fun k' hk' => ?_)
        · simp [execOp, ho, hy, rep_i hi, Instr.indexAt, asIntOf, run_underlying (elT_und h2), hC, run_sizeOf hz, Addr.add_lit]
        · obtain rfl : k = k' := Option.some.inj (a1.symm.trans hk')
          exact ⟨by omega, fun _ _ => ⟨q, d1, rfl⟩⟩
    · rename_i n e b g off _ h3 h4
      obtain ⟨k, hk, h⟩ := Option.bind_eq_some_iff.1 h
      obtain ⟨z, hz, h⟩ := Option.map_eq_some_iff.1 h
      injection h with h1 h
      injection h with h2' h3'
      subst h1; subst h2'; subst h3'
      rw [h4] at hx
      obtain ⟨q, hq, hp⟩ := p_rep hx hk
      obtain ⟨a1, a2, a3⟩ := at_some hk
      refine Yes.pure hH (x := .pointer (some ⟨q, off + j.toNat * z, none⟩)) ?_ (.p _ (List.getElem?_eq_some_iff.1 a1).1 fun k' hk' => ?_)
      · simp [execOp, ho, hp, rep_i hi, Instr.indexAt, Instr.sureAddr, asIntOf, run_underlying (arT_und h3), hC, run_sizeOf hz, Addr.add_lit]
      · obtain rfl : k = k' := Option.some.inj (a1.symm.trans hk')
        exact ⟨by omega, fun _ _ => ⟨q, hq, rfl⟩⟩
    · rename_i n e cs off _ h3 h4
      obtain ⟨z, hz, h⟩ := Option.map_eq_some_iff.1 h
      injection h with h1 h
      injection h with h2' h3'
      subst h1; subst h2'; subst h3'
      rw [h4] at hx
      generalize hy : ρ' x = y at hx
      cases hx with
      | r ad xs hF hc hxs =>
        refine Yes.pure hH (x := .pointer (some ⟨ad.block, ad.off + (off + j.toNat * z), none⟩)) ?_ (.r ad xs hF hc hxs)
        simp [execOp, ho, hy, rep_i hi, Instr.indexAt, Instr.sureAddr, asIntOf, run_underlying (arT_und h3), hC, run_sizeOf hz, Addr.add_lit, Nat.add_assoc]
    · cases h
  · cases h
end
end Go.Proofs.E
end
