/- What each operation does to abstract memory. -/
import Derived.Test.YtaeoiohcalonkaaGreatDoorAxMem
import Derived.Deep.AppendSrc
import Derived.Laws.Entries
set_option linter.unusedVariables false
set_option linter.unusedSimpArgs false
namespace Go.Ax
open Go

def szOf (P : Program) (t : TypeId) : Option Nat := (P.info? t).map (·.size)
def zeroOf (P : Program) (t : TypeId) : Option Value := (P.info? t).bind (·.zero)
def bytesOf (P : Program) (t : TypeId) : Option Nat := (P.info? t).map (·.bytes)
/-- A field's place and size, where it has cells. -/
def fieldAtOf (P : Program) (t : TypeId) (f : Nat) : Option (Nat × Nat) :=
  match P.underlying t with
  | some (.struct fs) => match fs[f]? with
    | some f => match szOf P f.type with
      | some (n + 1) => some (f.offset, n + 1)
      | _ => none
    | none => none
  | _ => none
/-- Is a value of the type several cells (a struct, an array)? -/
def aggOf (P : Program) (t : TypeId) : Option Bool :=
  match P.underlying t with
  | some (.struct _) | some (.array _ _) => some true
  | some _ => some false
  | none => none
def elemOf (P : Program) (t : TypeId) : Option TypeId :=
  match P.underlying t with
  | some (.slice e) => some e
  | _ => none
def arrOf (P : Program) (t : TypeId) : Option (Nat × TypeId) :=
  match P.underlying t with
  | some (.array n e) => some (n, e)
  | _ => none

abbrev Fr := Nat → Value
def Fr.set (F : Fr) (d : Nat) (v : Value) : Fr := fun i => if i = d then v else F i
def Fr.put (F : Fr) : Option Nat → Value → Fr
  | some d, v => F.set d v
  | none, _ => F

def aEval (F : Fr) : Operand → Value
  | .tmp t => F t
  | .const v => v
  | .global _ => undef
  | .func f => .func (.func f) #[] #[]

/-- Cells of a value that a store may lay. -/
def laidCell : Value → Bool
  | .agg _ | .tuple _ | .chan _ => false
  | _ => true
def oneCells (cs : List Value) : Bool := cs.all laidCell

def setAt : List Value → Nat → List Value → List Value
  | vs, _, [] => vs
  | vs, i, c :: cs => setAt (vs.set i c) (i + 1) cs

section
variable {L : Type}

def aLoad (P : Program) (t : TypeId) (b off : Nat) (σ : AMem L) : Option Value :=
  match σ.get b, aggOf P t, szOf P t with
  | some (.cells vs _ _), some false, some _ => vs[off]?
  | some (.cells vs _ _), some true, some n => if off + n ≤ vs.length then some (.agg ((vs.drop off).take n).toArray) else none
  | _, _, _ => none

def aStore (P : Program) (t : TypeId) (b off : Nat) (v : Value) (σ : AMem L) : Option (AMem L) :=
  match σ.get b, cellsOf v, szOf P t with
  | some (.cells vs e false), some cs, some n =>
    if cs.length = n ∧ off + n ≤ vs.length ∧ oneCells cs = true then some (σ.set b (.cells (setAt vs off cs) e false)) else none
  | _, _, _ => none

def intBin (op : BinOp) (k : IntKind) (x y : Int) : Option Value :=
  match op with
  | .add => some (.int k (k.wrap (x + y)))
  | .sub => some (.int k (k.wrap (x - y)))
  | .mul => some (.int k (k.wrap (x * y)))
  | .quo => if y = 0 then none else some (.int k (k.wrap (x.tdiv y)))
  | .rem => if y = 0 then none else some (.int k (x.tmod y))
  | .and => some (.int k (k.wrap (BitVec.ofInt k.bits x &&& BitVec.ofInt k.bits y).toNat))
  | .or => some (.int k (k.wrap (BitVec.ofInt k.bits x ||| BitVec.ofInt k.bits y).toNat))
  | .xor => some (.int k (k.wrap (BitVec.ofInt k.bits x ^^^ BitVec.ofInt k.bits y).toNat))
  | .andNot => some (.int k (k.wrap (BitVec.ofInt k.bits x &&& ~~~BitVec.ofInt k.bits y).toNat))
  | .eql => some (.bool (x == y))
  | .neq => some (.bool (x != y))
  | .lss => some (.bool (decide (x < y)))
  | .leq => some (.bool (decide (x ≤ y)))
  | .gtr => some (.bool (decide (x > y)))
  | .geq => some (.bool (decide (x ≥ y)))
  | _ => none

def shiftBin (op : BinOp) (k : IntKind) (x y : Int) : Option Value :=
  if y < 0 then none else
  match op with
  | .shl => some (.int k (k.wrap (x * 2 ^ (min y.toNat k.bits))))
  | .shr => some (.int k (x.fdiv (2 ^ (min y.toNat k.bits))))
  | _ => none

def strBin (op : BinOp) (x y : ByteArray) : Option Value :=
  match op with
  | .add => if x.size + y.size ≤ 9223372036854775807 then some (.string (x ++ y)) else none
  | .eql => some (.bool (x.toList == y.toList))
  | .neq => some (.bool !(x.toList == y.toList))
  | .lss => some (.bool (Op.bytesLess x.toList y.toList))
  | .leq => some (.bool (Op.bytesLess x.toList y.toList || x.toList == y.toList))
  | .gtr => some (.bool !(Op.bytesLess x.toList y.toList || x.toList == y.toList))
  | .geq => some (.bool !Op.bytesLess x.toList y.toList)
  | _ => none

def isEq : BinOp → Option Bool
  | .eql => some true
  | .neq => some false
  | _ => none

/-- '==' of two values that are no numbers and no strings: bools; one is nil. -/
def eqVal (d : TypeDesc) (x y : Value) : Option Bool :=
  match d, x, y with
  | .bool, .bool a, .bool b => some (a == b)
  | .pointer _, .pointer none, .pointer b => some b.isNone
  | .pointer _, .pointer (some _), .pointer none => some false
  | .slice _, .slice none _ _, .slice b _ _ => some b.isNone
  | .slice _, .slice (some _) _ _, .slice none _ _ => some false
  | .map _ _, .map none, .map b => some b.isNone
  | .map _ _, .map (some _), .map none => some false
  | .func _ _ _, .nilFunc, .nilFunc => some true
  | .func _ _ _, .nilFunc, .func _ _ _ => some false
  | .func _ _ _, .func _ _ _, .nilFunc => some false
  | _, _, _ => none

def aBin (P : Program) (op : BinOp) (t : TypeId) (x y : Value) : Option Value :=
  match x, y with
  | .int k a, .int k' b =>
    match op with
    | .shl | .shr => shiftBin op k a b
    | _ => if k = k' then intBin op k a b else none
  | .string a, .string b => strBin op a b
  | x, y => match isEq op, P.underlying t with
    | some e, some d => (eqVal d x y).map fun r => .bool (if e then r else !r)
    | _, _ => none

def aUn (op : UnOp) (x : Value) : Option Value :=
  match op, x with
  | .neg, .int k n => some (.int k (k.wrap (0 - n)))
  | .xor, .int k n => intBin .xor k (if k.signed then -1 else k.max) n
  | .not, .bool b => some (.bool !b)
  | _, _ => none

/-- The bytes that cells hold. -/
def bytesOfCells : List Value → Option (List UInt8)
  | [] => some []
  | .int .u8 n :: r => (bytesOfCells r).map (UInt8.ofNat n.toNat :: ·)
  | _ => none

def byteVals (l : List UInt8) : List Value := l.map fun b => .int .u8 b.toNat

/-- A slice's cells. -/
def sliceCells (σ : AMem L) (es : Nat) : Value → Option (List Value)
  | .slice none _ _ => some []
  | .slice (some _) 0 _ => some []
  | .slice (some ⟨b, off, none⟩) (n + 1) _ => match σ.get b with
    | some (.cells vs _ _) => if off + (n + 1) * es ≤ vs.length then some ((vs.drop off).take ((n + 1) * es)) else none
    | _ => none
  | _ => none

def aConv (P : Program) (src dst : TypeId) (x : Value) (σ : AMem L) (b nx : Nat) : Option (Value × AMem L) :=
  match P.underlying src, P.underlying dst, x with
  | some _, some (.int k), .int _ n => some (.int k (k.wrap n), σ)
  | some _, some .string, .string s => some (.string s, σ)
  | some _, some (.slice e), .string s =>
    match P.underlying e, szOf P e with
    | some (.int .u8), some 1 => some (.slice (some ⟨b, 0, none⟩) s.size s.size, σ.put b nx (.cells (byteVals s.data.toList) e false))
    | _, _ => none
  | some (.slice e), some .string, .slice a n c =>
    match P.underlying e, (sliceCells σ 1 (.slice a n c)).bind bytesOfCells with
    | some (.int .u8), some l => some (.string ⟨l.toArray⟩, σ)
    | _, _ => none
  | _, _, _ => none

def bound (v : Option Value) (dflt : Nat) (hi : Nat) : Option Nat :=
  match v with
  | none => some dflt
  | some (.int _ i) => if 0 ≤ i ∧ i ≤ hi then some i.toNat else none
  | _ => none

def aSlice (P : Program) (t : TypeId) (x : Value) (lo hi : Option Value) (σ : AMem L) : Option Value :=
  match P.underlying t, x with
  | some .string, .string s => (bound hi s.size s.size).bind fun h => (bound lo 0 h).map fun l => .string (s.extract l h)
  | some (.slice e), .slice none _ _ => (szOf P e).bind fun _ => (bound hi 0 0).bind fun h => (bound lo 0 h).map fun _ => .slice none 0 0
  | some (.slice e), .slice (some a) n _ => match szOf P e, σ.get a.block with
    | some es, some (.cells _ e' _) => if szOf P e' = some es then (bound hi n n).bind fun h => (bound lo 0 h).map fun l => .slice (some { a with off := a.off + l * es }) (h - l) (h - l) else none
    | _, _ => none
  | _, _ => none

def aIndexAddr (P : Program) (t : TypeId) (x ix : Value) : Option Value :=
  match ix, P.underlying t, x with
  | .int _ i, some (.array n e), .pointer (some a) => match szOf P e with
    | some es => if 0 ≤ i ∧ i < n then some (.pointer (some { a with off := a.off + i.toNat * es })) else none
    | none => none
  | .int _ i, some (.slice e), .slice (some a) n _ => match szOf P e with
    | some es => if 0 ≤ i ∧ i < n then some (.pointer (some { a with off := a.off + i.toNat * es })) else none
    | none => none
  | _, _, _ => none

def aPart (P : Program) (t : TypeId) (cs : Array Value) (off : Nat) : Option Value :=
  match aggOf P t, szOf P t with
  | some true, some n => if off + n ≤ cs.size then some (.agg (cs.extract off (off + n))) else none
  | some false, some _ => cs[off]?
  | _, _ => none

def aIndex (P : Program) (t : TypeId) (x ix : Value) : Option Value :=
  match ix, P.underlying t, x with
  | .int _ i, some .string, .string s => if 0 ≤ i then (s[i.toNat]?).map fun b => .int .u8 b.toNat else none
  | .int _ i, some (.array n e), .agg cs => match szOf P e with
    | some es => if 0 ≤ i ∧ i < n then aPart P e cs (i.toNat * es) else none
    | none => none
  | _, _, _ => none

def aField (P : Program) (t : TypeId) (x : Value) (f : Nat) : Option Value :=
  match P.underlying t, x with
  | some (.struct fs), .agg cs => match fs[f]? with
    | some f => aPart P f.type cs f.offset
    | none => none
  | _, _ => none

def aFieldAddr (P : Program) (t : TypeId) (x : Value) (f : Nat) : Option Value :=
  match fieldAtOf P t f, x with
  | some (o, _), .pointer (some a) => some (.pointer (some { a with off := a.off + o }))
  | _, _ => none

/-- A struct literal's cells. -/
def fillA (place : Nat → Option (Nat × Nat)) (cells : Array Value) : List (Nat × Value) → Option (Array Value)
  | [] => some cells
  | (i, v) :: rest =>
    match place i, cellsOf v with
    | some (off, size), some cs => if cs.length ≠ size || off + cs.length > cells.size then none
      else fillA place (setAt cells.toList off cs).toArray rest
    | _, _ => none

/-- The places and sizes of a struct's fields. -/
def placesOf (P : Program) (t : TypeId) : Option (List (Nat × Nat)) :=
  match P.underlying t with
  | some (.struct fs) => fs.toList.mapM fun f => (P.info? f.type).map fun i => (f.offset, i.size)
  | _ => none

def aBuild (P : Program) (t : TypeId) (parts : List (Nat × Value)) : Option Value :=
  match zeroOf P t, placesOf P t with
  | some z, some places => if z.cells.all flat then (fillA (places[·]?) z.cells parts).map .agg else none
  | some z, none => match arrOf P t with
    | some (_, e) => match szOf P e with
      | some es => if z.cells.all flat then (fillA (fun i => some (i * es, es)) z.cells parts).map .agg else none
      | none => none
    | none => none
  | _, _ => none

/-- So many cells, one element's zero again and again. -/
def zeroRow (z : Array Value) (n : Nat) : List Value := (List.range n).map fun i => z[i % z.size]!

def aBuildSlice (P : Program) (t : TypeId) (len : Nat) (parts : List (Nat × Value)) (σ : AMem L) (b nx : Nat) : Option (Value × AMem L) :=
  match elemOf P t with
  | some e => match szOf P e, zeroOf P e with
    | some es, some z => if z.cells.size ≠ es || es = 0 || len * es > 2 ^ 24 || !z.cells.all flat then none else
        match fillA (fun i => some (i * es, es)) (zeroRow z.cells (len * es)).toArray parts with
        | some cs => some (.slice (some ⟨b, 0, none⟩) len len, σ.put b nx (.cells cs.toList e false))
        | none => none
    | _, _ => none
  | none => none

def aMakeSlice (P : Program) (t : TypeId) (len cap : Value) (σ : AMem L) (b nx : Nat) : Option (Value × AMem L) :=
  match elemOf P t, len, cap with
  | some e, .int _ l, .int _ c => match szOf P e, zeroOf P e, bytesOf P e with
    | some es, some z, some by_ => if z.cells.size ≠ es || es = 0 || !z.cells.all flat then none else
        if 0 ≤ l ∧ l ≤ c ∧ c ≤ 9223372036854775807 ∧ by_ * c ≤ 281474976710656 then some (.slice (some ⟨b, 0, none⟩) l.toNat l.toNat, σ.put b nx (.cells (zeroRow z.cells (l.toNat * es)) e false)) else none
    | _, _, _ => none
  | _, _, _ => none

/-- What append takes from its second argument. -/
def aSrc (P : Program) (tx : TypeId) (es : Nat) (σ : AMem L) (x : Value) : Option (Nat × List Value) :=
  match P.underlying tx, x with
  | some (.slice _), .slice a n c => (sliceCells σ es (.slice a n c)).map fun l => (n, l)
  | some .string, .string s => if es = 1 then some (s.size, byteVals s.data.toList) else none
  | _, _ => none

def aAppend (P : Program) (t tx : TypeId) (s x : Value) (σ : AMem L) (b nx : Nat) : Option (Value × AMem L) :=
  match elemOf P t with
  | some e => match szOf P e, zeroOf P e, bytesOf P e with
    | some es, some z, some by_ => match aSrc P tx es σ x, sliceCells σ es s with
      | some (n, news), some olds =>
        if es = 0 || by_ = 0 || z.cells.size ≠ es || !oneCells news || (olds.length + news.length) * by_ > 2 ^ 46 then none else
        match s with
        | .slice none 0 _ => if n = 0 then some (.slice none 0 0, σ) else some (.slice (some ⟨b, 0, none⟩) n n, σ.put b nx (.cells news e false))
        | .slice (some a) len _ =>
          if n = 0 then some (.slice (some a) len len, σ) else
          match σ.get a.block with
          | some (.cells _ e' false) => if e' = e then some (.slice (some ⟨b, 0, none⟩) (len + n) (len + n), (σ.kill a.block).put b nx (.cells (olds ++ news) e false)) else none
          | _ => none
        | _ => none
      | _, _ => none
    | _, _, _ => none
  | none => none

def aLen (P : Program) (t : TypeId) (x : Value) (σ : AMem L) : Option Value :=
  match P.underlying t, x with
  | some .string, .string s => some (.int .i64 s.size)
  | some (.slice _), .slice _ n _ => some (.int .i64 n)
  | some (.map _ _), .map none => some (.int .i64 0)
  | some (.map _ _), .map (some r) => match σ.get r with
    | some (.map es) => some (.int .i64 es.length)
    | _ => none
  | _, _ => none

def aCopy (P : Program) (t : TypeId) (dst src : Value) (σ : AMem L) : Option (Value × AMem L) :=
  match elemOf P t with
  | some e => match szOf P e, dst with
    | some es, .slice (some ⟨b, off, none⟩) dn _ =>
      match σ.get b, (match src with | .string s => (if es = 1 then some (s.size, byteVals s.data.toList) else none) | .slice a n c => (sliceCells σ es (.slice a n c)).map fun l => (n, l) | _ => none) with
      | some (.cells vs e' false), some (n, l) =>
        if es = 0 || !oneCells (l.take (min n dn * es)) || off + dn * es > vs.length then none else
        some (.int .i64 ((min n dn : Nat) : Int), σ.set b (.cells (setAt vs off (l.take (min n dn * es))) e' false))
      | _, _ => none
    | _, _ => none
  | none => none

def keyEq : Value → Value → Bool
  | .int k a, .int k' b => k == k' && a == b
  | .string a, .string b => a == b
  | .bool a, .bool b => a == b
  | _, _ => false

def mapGet (k : Value) : List (Value × Value) → Option Value
  | [] => none
  | (k', v) :: r => if keyEq k k' then some v else mapGet k r
def mapSet (k v : Value) : List (Value × Value) → List (Value × Value)
  | [] => [(k, v)]
  | (k', v') :: r => if keyEq k k' then (k', v) :: r else (k', v') :: mapSet k v r
def mapDel (k : Value) : List (Value × Value) → List (Value × Value)
  | [] => []
  | (k', v') :: r => if keyEq k k' then r else (k', v') :: mapDel k r

/-- Is the key's type one whose values are compared as they stand, and is the key of it? -/
def keyFits (d : TypeDesc) (k : Value) : Bool :=
  match d, k with
  | .int k1, .int k2 _ => k1 == k2
  | .string, .string _ => true
  | .bool, .bool _ => true
  | _, _ => false

def mapOf (P : Program) (t : TypeId) : Option (TypeId × TypeId) :=
  match P.underlying t with
  | some (.map k e) => some (k, e)
  | _ => none

def aLookup (P : Program) (t : TypeId) (m k : Value) (commaOk : Bool) (σ : AMem L) : Option Value :=
  match mapOf P t with
  | some (kt, et) => match P.underlying kt, zeroOf P et with
    | some d, some z =>
      if !keyFits d k || !plain z then none else
      match m with
      | .map none => some (if commaOk then .tuple #[z, .bool false] else z)
      | .map (some r) => match σ.get r with
        | some (.map es) => if es.all (fun kv => keyFits d kv.1) then
            match mapGet k es with
            | some v => some (if commaOk then .tuple #[v, .bool true] else v)
            | none => some (if commaOk then .tuple #[z, .bool false] else z)
          else none
        | _ => none
      | _ => none
    | _, _ => none
  | none => none

def aMapUpdate (P : Program) (t : TypeId) (m k v : Value) (σ : AMem L) : Option (AMem L) :=
  match mapOf P t, m with
  | some (kt, _), .map (some r) => match P.underlying kt, σ.get r with
    | some d, some (.map es) => if keyFits d k && es.all (fun kv => keyFits d kv.1) then some (σ.set r (.map (mapSet k v es))) else none
    | _, _ => none
  | _, _ => none

def aDelete (P : Program) (t : TypeId) (m k : Value) (σ : AMem L) : Option (AMem L) :=
  match mapOf P t, m with
  | some (kt, _), .map (some r) => match P.underlying kt, σ.get r with
    | some d, some (.map es) => if keyFits d k && es.all (fun kv => keyFits d kv.1) then some (σ.set r (.map (mapDel k es))) else none
    | _, _ => none
  | _, _ => none

def aMin (x y : Value) : Option Value :=
  match x, y with
  | .int k a, .int _ b => some (.int k (if b < a then b else a))
  | _, _ => none
def aMax (x y : Value) : Option Value :=
  match x, y with
  | .int k a, .int _ b => some (.int k (if b > a then b else a))
  | _, _ => none

def valued (σ : AMem L) (v : Option Value) : Option (Value × AMem L) := v.map fun v => (v, σ)
def silent (σ : Option (AMem L)) : Option (Value × AMem L) := σ.map fun σ => (undef, σ)

/-- copy into a slice that is nil. -/
def aCopyN (P : Program) (t : TypeId) (d s : Value) : Option Value :=
  match elemOf P t, d with
  | some e, .slice none _ _ => match szOf P e, s with
    | some _, .slice _ _ _ => some (.int .i64 0)
    | some _, .string _ => some (.int .i64 0)
    | _, _ => none
  | _, _ => none

/-- append of a make, to a slice that is nil. -/
def aAppendZ (P : Program) (t : TypeId) (s x : Value) (σ : AMem L) (b nx : Nat) : Option (Value × AMem L) :=
  match elemOf P t, s, x with
  | some e, .slice none 0 _, .int _ k => match szOf P e, zeroOf P e, bytesOf P e with
    | some es, some z, some by_ => if z.cells.size ≠ es || es = 0 || by_ = 0 || !z.cells.all flat then none else
        if 0 < k ∧ k.toNat * by_ ≤ 2 ^ 46 then some (.slice (some ⟨b, 0, none⟩) k.toNat k.toNat, σ.put b nx (.cells (zeroRow z.cells (k.toNat * es)) e false)) else none
    | _, _, _ => none
  | _, _, _ => none

def aCap (P : Program) (t : TypeId) (x : Value) : Option Value :=
  match P.underlying t, x with
  | some (.slice _), .slice none _ _ => some (.int .i64 0)
  | _, _ => none

def aBuiltin (P : Program) (bi : Builtin) (ts : List TypeId) (args : List Value) (σ : AMem L) (b nx : Nat) : Option (Value × AMem L) :=
  match bi, args, ts with
  | .len, [x], [t] => valued σ (aLen P t x σ)
  | .append, [s, x], [t, tx] => (match P.underlying tx with
    | some (.int _) => aAppendZ P t s x σ b nx
    | _ => aAppend P t tx s x σ b nx)
  | .copy, [d, s], t :: _ => (match aCopyN P t d s with
    | some v => some (v, σ)
    | none => aCopy P t d s σ)
  | .delete, [m, k], t :: _ => silent (aDelete P t m k σ)
  | .min, [x, y], _ => valued σ (aMin x y)
  | .max, [x, y], _ => valued σ (aMax x y)
  | .cap, [x], [t] => valued σ (aCap P t x)
  | _, _, _ => none

/-- The cells of two structs, field by field: numbers, strings, bools. -/
def eqCells (P : Program) : List Field → Array Value → Array Value → Option Bool
  | [], _, _ => some true
  | f :: fs, xs, ys =>
    if f.name = "_" then none else
    match P.underlying f.type, xs[f.offset]?, ys[f.offset]? with
    | some (.int _), some (.int k a), some (.int k' b) => if k = k' then (if a == b then eqCells P fs xs ys else some false) else none
    | some .string, some (.string a), some (.string b) => if a == b then eqCells P fs xs ys else some false
    | some .bool, some (.bool a), some (.bool b) => if a == b then eqCells P fs xs ys else some false
    | _, _, _ => none

def eqStruct (P : Program) (t : TypeId) (x y : Value) : Option Bool :=
  match P.underlying t, x, y with
  | some (.struct fs), .agg xs, .agg ys => if P.stoodInHeld t || P.eqGuardType P.depth t then none else eqCells P fs.toList xs ys
  | _, _, _ => none

def isNilWord : Operand → Bool
  | .const .nilIface => true
  | _ => false
def isNilV : Value → Bool
  | .nilIface => true
  | _ => false
def isAggV : Value → Bool
  | .agg _ => true
  | _ => false
def isIfaceT : Option TypeDesc → Bool
  | some (.interface _) => true
  | _ => false

/-- '==' against the word nil, of an interface that is nil; of structs; else as the values say. -/
def aBinO (P : Program) (op : BinOp) (t : TypeId) (x y : Operand) (F : Fr) : Option Value :=
  if isNilWord y && isNilV (aEval F x) && isIfaceT (P.underlying t) then (isEq op).map .bool
  else if isAggV (aEval F x) then (isEq op).bind fun e => (eqStruct P t (aEval F x) (aEval F y)).map fun r => .bool (if e then r else !r)
  else aBin P op t (aEval F x) (aEval F y)

/-- An operation that calls nothing. 'b', 'nx': the next abstract block, and the number behind it. -/
def aOp (P : Program) (op : Op) (F : Fr) (σ : AMem L) (b nx : Nat) : Option (Value × AMem L) :=
  match op with
  | .move x | .assign x => some (aEval F x, σ)
  | .pick c x y => match aEval F c with
    | .bool t => some (if t then aEval F x else aEval F y, σ)
    | _ => none
  | .alloc e => match zeroOf P e, szOf P e with
    | some z, some _ => if z.cells.all flat then some (.pointer (some ⟨b, 0, none⟩), σ.put b nx (.cells z.cells.toList e false)) else none
    | _, _ => none
  | .box e x => match cellsOf (aEval F x), szOf P e with
    | some cs, some _ => some (.pointer (some ⟨b, 0, none⟩), σ.put b nx (.cells cs e false))
    | _, _ => none
  | .build t parts => valued σ (aBuild P t (parts.toList.map fun (i, x) => (i, aEval F x)))
  | .buildSlice t len parts => aBuildSlice P t len (parts.toList.map fun (i, x) => (i, aEval F x)) σ b nx
  | .load t a => match aEval F a with
    | .pointer (some ⟨c, off, none⟩) => valued σ (aLoad P t c off σ)
    | _ => none
  | .store t a x => match aEval F a with
    | .pointer (some ⟨c, off, none⟩) => silent (aStore P t c off (aEval F x) σ)
    | _ => none
  | .nilCheck x => match aEval F x with
    | .pointer (some a) => some (.pointer (some a), σ)
    | .func (.func f) xs us => some (.func (.func f) xs us, σ)
    | _ => none
  | .binOp op t x y _ => valued σ (aBinO P op t x y F)
  | .unOp op _ x => valued σ (aUn op (aEval F x))
  | .convert s d x => aConv P s d (aEval F x) σ b nx
  | .makeFunc fn xs us => some (.func fn (xs.map (aEval F)) (us.map (aEval F)), σ)
  | .makeMap _ none => some (.map (some b), σ.put b nx (.map []))
  | .makeSlice t l c => aMakeSlice P t (aEval F l) (aEval F c) σ b nx
  | .slice t x lo hi none => valued σ (aSlice P t (aEval F x) (lo.map (aEval F)) (hi.map (aEval F)) σ)
  | .fieldAddr t x f => valued σ (aFieldAddr P t (aEval F x) f)
  | .field t x f => valued σ (aField P t (aEval F x) f)
  | .indexAddr t x i => valued σ (aIndexAddr P t (aEval F x) (aEval F i))
  | .index t x i => valued σ (aIndex P t (aEval F x) (aEval F i))
  | .lookup t m k ok => valued σ (aLookup P t (aEval F m) (aEval F k) ok σ)
  | .mapUpdate t m k v => silent (aMapUpdate P t (aEval F m) (aEval F k) (aEval F v) σ)
  | .extract x i => match aEval F x with
    | .tuple vs => valued σ (vs[i]?)
    | _ => none
  | .call { callee := .builtin bi, args, argTypes } => aBuiltin P bi argTypes.toList (args.toList.map (aEval F)) σ b nx
  | _ => none
end

end Go.Ax
