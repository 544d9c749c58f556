/-
  The abstract machine: a functional interpreter of the loaded code, over a memory in which appended rows are new objects. Definitions alone.
-/
import Derived.Calls
import Derived.Orders
import Derived.Deep.Quiet
import Derived.Below
import Derived.WalkKit
namespace Go.Proofs.Ytmjcfcbjccepnaa.Eng
open Go

/-- A capacity that is not known. -/
def INF : Nat := 18446744073709551616

inductive AObj where
  | cells (c : List Value) (k : Nat) (own : Bool)
  | map (es : List (Value × Value)) (own : Bool)
  | siter (s : ByteArray) (pos : Nat)
  | miter (m : Option Nat) (left : List (Value × Value))
  | dead
  deriving Inhabited

abbrev AH := List AObj

def AObj.own : AObj → Bool
  | .cells _ _ o => o
  | .map _ o => o
  | .siter _ _ => true
  | .miter _ _ => true
  | .dead => false

def AObj.live : AObj → Bool
  | .dead => false
  | _ => true

/-- The program, the memory that was there before (read only), the first number of new objects, and the functions that are not walked. -/
structure Env where
  P : Program
  w0 : World
  M : Nat
  ext : FuncId → Option (List Value → AH → Option (Value × AH)) := fun _ => none

/-- What the results of a run are gathered in. -/
structure Ans (ρ : Type) where
  bot : ρ
  all : List ρ → ρ

/-! ### Values that hold no address -/
def plain1 : Value → Bool
  | .bool _ | .int .. | .float .. | .complex .. | .string _ | .pointer none | .slice none _ _ | .map none | .chan none | .nilFunc | .nilIface => true
  | .func _ a b => a.isEmpty && b.isEmpty
  | _ => false
def plainV : Value → Bool
  | .agg cs => cs.toList.all plain1
  | .tuple cs => cs.toList.all plain1
  | .iface _ v => plain1 v
  | v => plain1 v

/-! ### Slots -/
def sget (s : List Value) (i : Nat) : Value := s.getD i undef
def sput (s : List Value) (i : Nat) (v : Value) : List Value := if i < s.length then s.set i v else s ++ List.replicate (i - s.length) undef ++ [v]
def sputO (s : List Value) : Option Nat → Value → List Value
  | some i, v => sput s i v
  | none, _ => s
def sval (s : List Value) : Operand → Value
  | .tmp t => sget s t
  | .const v => v
  | .global g => .pointer (some ⟨g, 0, none⟩)
  | .func f => .func (.func f) #[] #[]

/-! ### Memory -/
variable (E : Env)

def ld (H : AH) (a : Addr) : Option Value :=
  if a.block < E.M then E.w0.cell? a
  else if a.spot.isSome then none
  else match H[a.block - E.M]? with
    | some (.cells c _ _) => c[a.off]?
    | _ => none

def ldc (H : AH) (a : Addr) : Nat → Nat → Option (List Value)
  | _, 0 => some []
  | i, n + 1 => (ld E H (a.add i)).bind fun v => (ldc H a (i + 1) n).map fun r => v :: r

/-- n cells written over those at off. -/
def overwrite (c : List Value) (off : Nat) (vs : List Value) : List Value := c.take off ++ vs ++ c.drop (off + vs.length)

def stc (H : AH) (a : Addr) (vs : List Value) : Option AH :=
  if a.block < E.M ∨ a.spot.isSome = true then none
  else match H[a.block - E.M]? with
    | some (.cells c k true) => if a.off + vs.length ≤ c.length ∧ vs.all Value.oneCell' = true then some (H.set (a.block - E.M) (.cells (overwrite c a.off vs) k true)) else none
    | _ => none

def newA (H : AH) (o : AObj) : Addr × AH := (⟨E.M + H.length, 0, none⟩, H ++ [o])

def isAggT (t : TypeId) : Option Bool := match E.P.underlying t with
  | some (.struct _) => some true
  | some (.array _ _) => some true
  | some _ => some false
  | none => none
def sizeT (t : TypeId) : Option Nat := (E.P.info? t).map (·.size)
def bytesT (t : TypeId) : Option Nat := (E.P.info? t).map (·.bytes)
def zeroT (t : TypeId) : Option Value := match (E.P.info? t).bind (·.zero) with
  | some z => if plainV z then some z else none
  | none => none
theorem zeroT_old {t : TypeId} {z : Value} (h : zeroT E t = some z) : (E.P.info? t).bind (·.zero) = some z ∧ plainV z = true := by
  unfold zeroT at h
  split at h
  · rename_i y hy
    split at h
    · rename_i hp; cases h; exact ⟨hy, hp⟩
    · cases h
  · cases h

def ldVar (H : AH) (t : TypeId) (a : Addr) : Option Value :=
  (isAggT E t).bind fun g => if g then (sizeT E t).bind fun n => (ldc E H a 0 n).map fun cs => .agg cs.toArray else ld E H a

def partT (t : TypeId) (cs : Array Value) (off : Nat) : Option Value :=
  (isAggT E t).bind fun g => if g then (sizeT E t).map fun n => .agg (cs.extract off (off + n)) else cs[off]?

/-! ### Operators -/
/-- Field by field. -/
def evFields (eq : TypeId → Value → Value → Option Bool) (xs ys : Array Value) : List Field → Option Bool
  | [] => some true
  | f :: fs => if f.name = "_" then evFields eq xs ys fs else
    (partT E f.type xs f.offset).bind fun u => (partT E f.type ys f.offset).bind fun v => (eq f.type u v).bind fun b => if b then evFields eq xs ys fs else some false
def evElems (eq : TypeId → Value → Value → Option Bool) (e : TypeId) (k : Nat) (xs ys : Array Value) : List Nat → Option Bool
  | [] => some true
  | i :: is => (partT E e xs (i * k)).bind fun u => (partT E e ys (i * k)).bind fun v => (eq e u v).bind fun b => if b then evElems eq e k xs ys is else some false
/-- '==' : what it answers, where it is plain. -/
def evEqStep (eq : TypeId → Value → Value → Option Bool) (t : TypeId) (x y : Value) : Option Bool :=
  match E.P.underlying t, x, y with
  | some .bool, .bool a, .bool b => some (a == b)
  | some (.int _), .int k a, .int k' b => if k = k' then some (a == b) else none
  | some .string, .string a, .string b => some (a == b)
  | some (.pointer _), .pointer none, .pointer b => some b.isNone
  | some (.pointer _), .pointer (some _), .pointer none => some false
  | some (.slice _), .slice none _ _, .slice b _ _ => some b.isNone
  | some (.slice _), .slice (some _) _ _, .slice none _ _ => some false
  | some (.map _ _), .map none, .map b => some b.isNone
  | some (.map _ _), .map (some _), .map none => some false
  | some (.struct fs), .agg xs, .agg ys => if E.P.stoodInHeld t then none else evFields E eq xs ys fs.toList
  | some (.array n e), .agg xs, .agg ys => (sizeT E e).bind fun k => evElems E eq e k xs ys (List.range n)
  | _, _, _ => none
def evEq : Nat → TypeId → Value → Value → Option Bool
  | 0 => fun _ _ _ => none
  | d + 1 => evEqStep E (evEq d)

def evInt (op : BinOp) (k : IntKind) (a b : Int) : Option Value :=
  match op with
  | .add => some (.int k (k.wrap (a + b)))
  | .sub => some (.int k (k.wrap (a - b)))
  | .mul => some (.int k (k.wrap (a * b)))
  | .quo => if b = 0 then none else some (.int k (k.wrap (a.tdiv b)))
  | .rem => if b = 0 then none else some (.int k (a.tmod b))
  | .and => some (.int k (k.wrap (BitVec.ofInt k.bits a &&& BitVec.ofInt k.bits b).toNat))
  | .or => some (.int k (k.wrap (BitVec.ofInt k.bits a ||| BitVec.ofInt k.bits b).toNat))
  | .xor => some (.int k (k.wrap (BitVec.ofInt k.bits a ^^^ BitVec.ofInt k.bits b).toNat))
  | .andNot => some (.int k (k.wrap (BitVec.ofInt k.bits a &&& ~~~(BitVec.ofInt k.bits b)).toNat))
  | .eql => some (.bool (a == b))
  | .neq => some (.bool (a != b))
  | .lss => some (.bool (decide (a < b)))
  | .leq => some (.bool (decide (a ≤ b)))
  | .gtr => some (.bool (decide (a > b)))
  | .geq => some (.bool (decide (a ≥ b)))
  | _ => none

def evStr (op : BinOp) (x y : ByteArray) : Option Value :=
  match op with
  | .add => if ((x.size + y.size : Nat) : Int) > 9223372036854775807 then none else some (.string (x ++ y))
  | .eql => some (.bool (x.toList == y.toList))
  | .neq => some (.bool (!(x.toList == y.toList)))
  | .lss => some (.bool (Op.bytesLess x.toList y.toList))
  | .leq => some (.bool (Op.bytesLess x.toList y.toList || x.toList == y.toList))
  | .gtr => some (.bool (!(Op.bytesLess x.toList y.toList || x.toList == y.toList)))
  | .geq => some (.bool (!(Op.bytesLess x.toList y.toList)))
  | _ => none

def evBin (op : BinOp) (t : TypeId) (x y : Value) : Option Value :=
  match x, y with
  | .int k a, .int k' b =>
    match op with
    | .shl => if b < 0 then none else some (.int k (k.wrap (a * 2 ^ (min b.toNat k.bits))))
    | .shr => if b < 0 then none else some (.int k (a.fdiv (2 ^ (min b.toNat k.bits))))
    | op => if k = k' then evInt op k a b else none
  | .string a, .string b => evStr op a b
  | .agg xs, .agg ys =>
    if E.P.eqGuardType E.P.depth t then none else
    match op with
    | .eql => (evEq E 8 t (.agg xs) (.agg ys)).map .bool
    | .neq => (evEq E 8 t (.agg xs) (.agg ys)).map fun b => .bool !b
    | _ => none
  | .bool a, .bool b =>
    match op with
    | .eql => (evEq E 8 t (.bool a) (.bool b)).map .bool
    | .neq => (evEq E 8 t (.bool a) (.bool b)).map fun b => .bool !b
    | _ => none
  | .pointer a, .pointer b =>
    match op with
    | .eql => (evEq E 8 t (.pointer a) (.pointer b)).map .bool
    | .neq => (evEq E 8 t (.pointer a) (.pointer b)).map fun b => .bool !b
    | _ => none
  | .slice a n c, .slice b m d =>
    match op with
    | .eql => (evEq E 8 t (.slice a n c) (.slice b m d)).map .bool
    | .neq => (evEq E 8 t (.slice a n c) (.slice b m d)).map fun b => .bool !b
    | _ => none
  | .map a, .map b =>
    match op with
    | .eql => (evEq E 8 t (.map a) (.map b)).map .bool
    | .neq => (evEq E 8 t (.map a) (.map b)).map fun b => .bool !b
    | _ => none
  | _, _ => none

def evUn (op : UnOp) (x : Value) : Option Value :=
  match op, x with
  | .neg, .int k n => some (.int k (k.wrap (0 - n)))
  | .xor, .int k n => some (.int k (k.wrap (BitVec.ofInt k.bits (if k.signed then -1 else k.max) ^^^ BitVec.ofInt k.bits n).toNat))
  | .not, .bool b => some (.bool !b)
  | _, _ => none

/-! ### Rows -/
def u8v (b : UInt8) : Value := .int .u8 b.toNat
def bytesCells (s : ByteArray) : List Value := s.data.toList.map u8v
def byteOf : Value → Option UInt8
  | .int .u8 n => some (UInt8.ofNat n.toNat)
  | _ => none

def lenOfV : Value → Option Nat
  | .slice _ n _ => some n
  | .string s => some s.size
  | _ => none
/-- The first n elements' cells. -/
def firstCellsA (H : AH) (size n : Nat) : Value → Option (List Value)
  | .slice (some a) _ _ => ldc E H a 0 (n * size)
  | .slice none _ _ => some []
  | .string s => some (bytesCells (s.extract 0 n))
  | _ => none

def repCells (z : List Value) : Nat → List Value
  | 0 => []
  | n + 1 => z ++ repCells z n

/-- The owned row of a new object. -/
def rowAt (H : AH) (a : Addr) : Option (List Value × Nat) :=
  if a.block < E.M ∨ a.spot.isSome = true then none
  else match H[a.block - E.M]? with
    | some (.cells c k true) => some (c, k)
    | _ => none

def kill (H : AH) (b : Nat) : AH := H.set (b - E.M) .dead

def unkCap (base : Option Addr) (cap : Nat) : Bool := match base with
  | some a => decide (E.M ≤ a.block ∧ cap = INF)
  | none => false

/-- append, behind the looks at the types: the row's base, its length and capacity; the new cells, of m elements. -/
def appendA (size n cap m : Nat) (base : Option Addr) (new : List Value) (H : AH) : Option (Value × AH) :=
  match base with
  | none =>
    if cap ≠ 0 ∨ n ≠ 0 then none
    else if m = 0 then some (.slice none 0 0, H)
    else some (.slice (some (newA E H (.cells new size true)).1) m INF, (newA E H (.cells new size true)).2)
  | some a =>
    if n > cap then none
    else if m = 0 then some (.slice (some a) n cap, H)
    else if unkCap E base cap then
      match rowAt E H a with
      | none => none
      | some (c, k) =>
        if k ≠ size ∨ c.length < a.off + n * size ∨ new.all Value.oneCell' = false then none
        else some (.slice (some (newA E (kill E H a.block) (.cells ((c.drop a.off).take (n * size) ++ new) size true)).1) (n + m) INF, (newA E (kill E H a.block) (.cells ((c.drop a.off).take (n * size) ++ new) size true)).2)
    else if n + m ≤ cap then
      (stc E H (a.add (n * size)) new).map fun H' => (.slice (some a) (n + m) cap, H')
    else
      (ldc E H a 0 (n * size)).map fun old => (.slice (some (newA E H (.cells (old ++ new) size true)).1) (n + m) INF, (newA E H (.cells (old ++ new) size true)).2)

def notInt : Option TypeDesc → Bool
  | some (.int _) => false
  | none => false
  | _ => true

def evAppend (argTypes : Array TypeId) (args : List Value) (H : AH) : Option (Value × AH) :=
  match argTypes[0]?, argTypes[1]?, args with
  | some sT, some xT, [.slice base n cap, x] =>
    match E.P.underlying sT with
    | some (.slice elem) =>
      if notInt (E.P.underlying xT) then
      (sizeT E elem).bind fun size => (bytesT E elem).bind fun by_ => (zeroT E elem).bind fun z => (lenOfV x).bind fun m =>
      (firstCellsA E H size m x).bind fun new =>
      if (n + m) * by_ > 140737488355328 ∨ n + m > 9223372036854775807 ∨ z.cells.size ≠ size ∨ new.length ≠ m * size then none
      else appendA E size n cap m base new H
      else none
    | _ => none
  | _, _, _ => none

def evCopy (argTypes : Array TypeId) (args : List Value) (H : AH) : Option (Value × AH) :=
  match argTypes[0]?, args with
  | some dT, [.slice base n _, x] =>
    match E.P.underlying dT with
    | some (.slice elem) =>
      (sizeT E elem).bind fun size => (lenOfV x).bind fun m =>
      (firstCellsA E H size (Nat.min m n) x).bind fun cs =>
      match base with
      | none => some (.int .i64 (Nat.min m n : Nat), H)
      | some a => if cs = [] then some (.int .i64 (Nat.min m n : Nat), H) else (stc E H a cs).map fun H' => (.int .i64 (Nat.min m n : Nat), H')
    | _ => none
  | _, _ => none

def evClear (argTypes : Array TypeId) (args : List Value) (H : AH) : Option (Value × AH) :=
  match argTypes[0]?, args with
  | some t, [.slice base n _] =>
    match E.P.underlying t with
    | some (.slice elem) =>
      match base with
      | none => some (undef, H)
      | some a => if n = 0 then some (undef, H) else (zeroT E elem).bind fun z => (stc E H a (repCells z.cells.toList n)).map fun H' => (undef, H')
    | _ => none
  | _, _ => none

def evMin2 (mx : Bool) : Value → Value → Option Value
  | .int k x, .int k' y => if k = k' then some (.int k (if mx then (if y > x then y else x) else (if y < x then y else x))) else none
  | _, _ => none
def evMinL (mx : Bool) : Value → List Value → Option Value
  | x, [] => some x
  | x, y :: r => (evMin2 mx x y).bind fun z => evMinL mx z r
def evMin (mx : Bool) : List Value → Option Value
  | .int k n :: r => evMinL mx (.int k n) r
  | _ => none

/-! ### Maps: keys whose type is a whole number's, a string's or a bool's -/
def plainKey (kt : TypeId) : Option TypeDesc := match E.P.underlying kt with
  | some (.int k) => some (.int k)
  | some .string => some .string
  | _ => none
def findE (d : TypeDesc) (k : Value) : List (Value × Value) → Nat → Option (Option Nat)
  | [], _ => some none
  | e :: es, i => (Instr.sameNow d k e.1).bind fun b => if b then some (some i) else findE d k es (i + 1)

def mapAt (H : AH) (r : Nat) : Option (List (Value × Value) × Bool) :=
  if r < E.M then none else match H[r - E.M]? with
    | some (.map es o) => some (es, o)
    | _ => none

def entriesOf (H : AH) : Value → Option (List (Value × Value))
  | .map none => some []
  | .map (some r) => (mapAt E H r).map fun p => p.1
  | _ => none

def evLookup (t : TypeId) (x k : Value) (ok : Bool) (H : AH) : Option Value :=
  match E.P.underlying t with
  | some (.map kt et) =>
    (plainKey E kt).bind fun d => (zeroT E et).bind fun z =>
      (entriesOf E H x).bind fun es =>
      (findE d k es 0).map fun i =>
        match i with
        | some i => if ok then .tuple #[((es[i]?.map fun (p : Value × Value) => p.2).getD undef), .bool true] else ((es[i]?.map fun (p : Value × Value) => p.2).getD undef)
        | none => if ok then .tuple #[z, .bool false] else z
  | _ => none

def evMapUpdate (t : TypeId) (m k x : Value) (H : AH) : Option AH :=
  match E.P.underlying t, m with
  | some (.map kt _), .map (some r) =>
    (plainKey E kt).bind fun d =>
      match mapAt E H r with
      | some (es, true) => (findE d k es 0).map fun
        | some i => H.set (r - E.M) (.map (es.set i (k, x)) true)
        | none => H.set (r - E.M) (.map (es ++ [(k, x)]) true)
      | _ => none
  | _, _ => none

def evDelete (argTypes : Array TypeId) (args : List Value) (H : AH) : Option AH :=
  match argTypes[0]?, args with
  | some t, [.map (some r), k] =>
    match E.P.underlying t with
    | some (.map kt _) =>
      (plainKey E kt).bind fun d =>
        match mapAt E H r with
        | some (es, true) => (findE d k es 0).map fun
          | some i => H.set (r - E.M) (.map (es.eraseIdx i) true)
          | none => H
        | _ => none
    | _ => none
  | _, _ => none

def evLen (argTypes : Array TypeId) (args : List Value) (H : AH) : Option Value :=
  match argTypes[0]?, args with
  | some t, [x] =>
    match E.P.underlying t, x with
    | some .string, .string s => some (.int .i64 s.size)
    | some (.slice _), .slice _ n _ => some (.int .i64 n)
    | some (.array n _), _ => some (.int .i64 n)
    | some (.map _ _), .map none => some (.int .i64 0)
    | some (.map _ _), .map (some r) => (mapAt E H r).map fun es => .int .i64 es.1.length
    | _, _ => none
  | _, _ => none

def evCap (argTypes : Array TypeId) (args : List Value) : Option Value :=
  match argTypes[0]?, args with
  | some t, [x] =>
    match E.P.underlying t, x with
    | some (.slice _), .slice (some a) _ c => if E.M ≤ a.block ∧ c = INF then none else some (.int .i64 c)
    | some (.slice _), .slice none _ c => some (.int .i64 c)
    | _, _ => none
  | _, _ => none

def evBuiltin (b : Builtin) (argTypes : Array TypeId) (args : List Value) (H : AH) : Option (Value × AH) :=
  match b with
  | .len => (evLen E argTypes args H).map fun v => (v, H)
  | .cap => (evCap E argTypes args).map fun v => (v, H)
  | .append => evAppend E argTypes args H
  | .copy => evCopy E argTypes args H
  | .clear => evClear E argTypes args H
  | .delete => (evDelete E argTypes args H).map fun H' => (undef, H')
  | .min => (evMin false args).map fun v => (v, H)
  | .max => (evMin true args).map fun v => (v, H)
  | _ => none

/-! ### Slicing, addresses -/
def bnd (x : Option Value) (dflt : Nat) (y : Nat) : Option Nat :=
  match x with
  | none => some dflt
  | some (.int _ i) => if 0 ≤ i ∧ i ≤ y then some i.toNat else none
  | _ => none

/-- The three bounds: how far they go, as far as it is known. -/
def bnds (n top : Nat) (lo hi mx : Option Value) : Option (Nat × Nat × Nat) :=
  match mx, hi with
  | some v, some h => (bnd (some v) 0 top).bind fun m => (bnd (some h) n m).bind fun h => (bnd lo 0 h).map fun l => (l, h, m)
  | some _, none => none
  | none, h => (bnd h n top).bind fun h => (bnd lo 0 h).map fun l => (l, h, top)

def moved (size : Nat) (base : Option Addr) (l m' : Nat) : Option Addr := match base with
  | some a => some (if m' = 0 then a else a.add (l * size))
  | none => none

/-- The elements have the width that the object has. -/
def widthAt (H : AH) (size : Nat) (base : Option Addr) : Bool := match base with
  | none => true
  | some a => if a.block < E.M then true else match H[a.block - E.M]? with
    | some (.cells _ k _) => k == size
    | _ => false

def evSlice (t : TypeId) (x : Value) (lo hi mx : Option Value) (H : AH) : Option Value :=
  match E.P.underlying t, x with
  | some .string, .string s =>
    if mx.isSome then none else
    (bnds s.size s.size lo hi none).map fun p => .string (s.extract p.1 p.2.1)
  | some (.slice e), .slice base n cap =>
    (sizeT E e).bind fun size =>
    if widthAt E H size base then
      if unkCap E base cap then
        (bnds n n lo hi mx).map fun p =>
          if mx.isNone then .slice (moved size base p.1 1) (p.2.1 - p.1) INF
          else .slice (moved size base p.1 (p.2.2 - p.1)) (p.2.1 - p.1) (p.2.2 - p.1)
      else if n ≤ cap then
        (bnds n cap lo hi mx).map fun p => .slice (moved size base p.1 (p.2.2 - p.1)) (p.2.1 - p.1) (p.2.2 - p.1)
      else none
    else none
  | _, _ => none

def evIndexAddr (t : TypeId) (x i : Value) : Option Value :=
  match E.P.underlying t, x, i with
  | some (.slice e), .slice (some a) n _, .int _ j => (sizeT E e).bind fun size => if 0 ≤ j ∧ j < n then some (.pointer (some (a.add (j.toNat * size)))) else none
  | some (.array n e), .pointer (some a), .int _ j => (sizeT E e).bind fun size => if 0 ≤ j ∧ j < n then some (.pointer (some (a.add (j.toNat * size)))) else none
  | _, _, _ => none

def evIndex (t : TypeId) (x i : Value) : Option Value :=
  match E.P.underlying t, x, i with
  | some (.array n e), .agg cs, .int _ j => (sizeT E e).bind fun size => if 0 ≤ j ∧ j < n then partT E e cs (j.toNat * size) else none
  | some .string, .string s, .int _ j => if 0 ≤ j then s.data[j.toNat]?.map u8v else none
  | _, _, _ => none

def fieldOf (t : TypeId) (f : Nat) : Option Field := match E.P.underlying t with
  | some (.struct fs) => fs[f]?
  | _ => none

def evFieldAddr (t : TypeId) (x : Value) (f : Nat) : Option Value :=
  match x with
  | .pointer (some a) => (fieldOf E t f).bind fun fd => (sizeT E fd.type).bind fun n => if n = 0 then none else some (.pointer (some (a.add fd.offset)))
  | _ => none
def evField (t : TypeId) (x : Value) (f : Nat) : Option Value :=
  match x with
  | .agg cs => (fieldOf E t f).bind fun fd => partT E fd.type cs fd.offset
  | _ => none

/-! ### Making -/
def placesT (t : TypeId) : Option (Nat → Option (Nat × Nat)) := match E.P.underlying t with
  | some (.struct fs) => (fs.toList.mapM fun f => (E.P.info? f.type).map fun i => (f.offset, i.size)).map fun l => fun i => l[i]?
  | some (.array _ e) => (sizeT E e).map fun n => fun i => some (i * n, n)
  | _ => none
/-- The parts laid over the cells. -/
def fillA (place : Nat → Option (Nat × Nat)) : List Value → List (Nat × Value) → Option (List Value)
  | cells, [] => some cells
  | cells, (i, v) :: rest => (place i).bind fun p =>
    if v.cells.size ≠ p.2 ∨ p.1 + v.cells.size > cells.length then none else fillA place (overwrite cells p.1 v.cells.toList) rest

def evBuild (t : TypeId) (parts : List (Nat × Value)) : Option Value :=
  (zeroT E t).bind fun z => (placesT E t).bind fun pl => (fillA pl z.cells.toList parts).map fun cs => .agg cs.toArray
def evBuildSlice (t : TypeId) (len : Nat) (parts : List (Nat × Value)) (H : AH) : Option (Value × AH) :=
  match E.P.underlying t with
  | some (.slice e) =>
    (sizeT E e).bind fun size => (zeroT E e).bind fun z =>
    if len * size > 16777216 ∨ z.cells.size ≠ size then none else
    (fillA (fun i => some (i * size, size)) (repCells z.cells.toList len) parts).map fun cs =>
      (.slice (some (newA E H (.cells cs size true)).1) len len, (newA E H (.cells cs size true)).2)
  | _ => none
def evMakeSlice (t : TypeId) (l c : Value) (H : AH) : Option (Value × AH) :=
  match E.P.underlying t, l, c with
  | some (.slice e), .int _ l, .int _ c =>
    (sizeT E e).bind fun size => (bytesT E e).bind fun by_ => (zeroT E e).bind fun z =>
    if l < 0 ∨ l > c ∨ by_ * c > 140737488355328 ∨ c > 9223372036854775807 ∨ z.cells.size ≠ size then none else
      some (.slice (some (newA E H (.cells (repCells z.cells.toList c.toNat) size true)).1) l.toNat c.toNat, (newA E H (.cells (repCells z.cells.toList c.toNat) size true)).2)
  | _, _, _ => none

def evConvert (src dst : TypeId) (x : Value) (H : AH) : Option (Value × AH) :=
  match E.P.underlying src, E.P.underlying dst, x with
  | some (.int _), some (.int k), .int _ n => some (.int k (k.wrap n), H)
  | some .string, some .string, .string s => some (.string s, H)
  | some .string, some (.slice e), .string s =>
    match E.P.underlying e with
    | some (.int .u8) => if sizeT E e = some 1 then some (.slice (some (newA E H (.cells (bytesCells s) 1 true)).1) s.size INF, (newA E H (.cells (bytesCells s) 1 true)).2) else none
    | _ => none
  | some (.slice e), some .string, .slice base n _ =>
    match E.P.underlying e with
    | some (.int .u8) =>
      match base with
      | none => some (.string .empty, H)
      | some a => (ldc E H a 0 n).bind fun cs => (cs.mapM byteOf).map fun bs => (.string ⟨bs.toArray⟩, H)
    | _ => none
  | _, _, _ => none

def evTypeAssert (x : Value) (asserted : TypeId) (ok : Bool) : Option Value :=
  match E.P.underlying asserted with
  | none => none
  | some (.interface _) => none
  | some _ =>
    match x with
    | .iface t v => if t = asserted then some (if ok then .tuple #[v, .bool true] else v) else if ok then (zeroT E asserted).map fun z => .tuple #[z, .bool false] else none
    | .nilIface => if ok then (zeroT E asserted).map fun z => .tuple #[z, .bool false] else none
    | _ => none

/-- Every operation but calls of functions and steps of iterators. -/
def evOp (o : Op) (ρ : Operand → Value) (H : AH) : Option (Value × AH) :=
  match o with
  | .move x => some (ρ x, H)
  | .assign x => some (ρ x, H)
  | .pick c a b => match ρ c with
    | .bool t => some (if t then ρ a else ρ b, H)
    | _ => none
  | .alloc e => (zeroT E e).bind fun z => (sizeT E e).map fun n => (.pointer (some (newA E H (.cells z.cells.toList n true)).1), (newA E H (.cells z.cells.toList n true)).2)
  | .box e x => (sizeT E e).map fun n => (.pointer (some (newA E H (.cells (ρ x).cells.toList n true)).1), (newA E H (.cells (ρ x).cells.toList n true)).2)
  | .build t ps => (evBuild E t (ps.toList.map fun p => (p.1, ρ p.2))).map fun v => (v, H)
  | .buildSlice t n ps => evBuildSlice E t n (ps.toList.map fun p => (p.1, ρ p.2)) H
  | .load t a => match ρ a with
    | .pointer (some ad) => (ldVar E H t ad).map fun v => (v, H)
    | _ => none
  | .store t a x => match ρ a with
    | .pointer (some ad) => if sizeT E t = some (ρ x).cells.size then (stc E H ad (ρ x).cells.toList).map fun H' => (undef, H') else none
    | _ => none
  | .nilCheck x => match ρ x with
    | .pointer (some a) => some (.pointer (some a), H)
    | .func (.func f) a b => some (.func (.func f) a b, H)
    | .slice a b c => some (.slice a b c, H)
    | .map r => some (.map r, H)
    | _ => none
  | .binOp op t x y _ => (evBin E op t (ρ x) (ρ y)).map fun v => (v, H)
  | .unOp op _ x => (evUn op (ρ x)).map fun v => (v, H)
  | .convert s d x => evConvert E s d (ρ x) H
  | .makeInterface t x => match E.P.underlying t with
    | none => none
    | some (.interface _) => none
    | some _ => some (.iface t (ρ x), H)
  | .makeFunc f a b => some (.func f (a.map ρ) (b.map ρ), H)
  | .makeMap _ none => some (.map (some (newA E H (.map [] true)).1.block), (newA E H (.map [] true)).2)
  | .makeSlice t l c => evMakeSlice E t (ρ l) (ρ c) H
  | .slice t x lo hi mx => (evSlice E t (ρ x) (lo.map ρ) (hi.map ρ) (mx.map ρ) H).map fun v => (v, H)
  | .fieldAddr t x f => (evFieldAddr E t (ρ x) f).map fun v => (v, H)
  | .field t x f => (evField E t (ρ x) f).map fun v => (v, H)
  | .indexAddr t x i => (evIndexAddr E t (ρ x) (ρ i)).map fun v => (v, H)
  | .index t x i => (evIndex E t (ρ x) (ρ i)).map fun v => (v, H)
  | .lookup t x i ok => (evLookup E t (ρ x) (ρ i) ok H).map fun v => (v, H)
  | .mapUpdate t m k x => (evMapUpdate E t (ρ m) (ρ k) (ρ x) H).map fun H' => (undef, H')
  | .insert t m k x => (evMapUpdate E t (ρ m) (ρ k) (ρ x) H).map fun H' => (undef, H')
  | .typeAssert x _ t ok => (evTypeAssert E (ρ x) t ok).map fun v => (v, H)
  | .extract x i => match ρ x with
    | .tuple vs => vs[i]?.map fun v => (v, H)
    | _ => none
  | .call ⟨.builtin b, args, argTypes⟩ => evBuiltin E b argTypes (args.toList.map ρ) H
  | _ => none

end Go.Proofs.Ytmjcfcbjccepnaa.Eng
