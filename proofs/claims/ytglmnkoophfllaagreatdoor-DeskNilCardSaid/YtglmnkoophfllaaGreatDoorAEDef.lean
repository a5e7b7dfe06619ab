/-
  The abstract machine: a deterministic interpreter of the model's code over an abstract heap.
-/
import GoSem.Step
namespace Go.AE
open Go

/-! ### A trie over the naturals -/
inductive T (α : Type) where
  | leaf
  | node (l : T α) (v : Option α) (r : T α)

namespace T
variable {α : Type}
def get : T α → Nat → Option α
  | leaf, _ => none
  | node l v r, n =>
    match n with
    | 0 => v
    | k + 1 => match Nat.beq (k % 2) 0 with
      | true => l.get (k / 2)
      | false => r.get (k / 2)
def setF : Nat → T α → Nat → Option α → T α
  | 0, t, _, _ => t
  | f + 1, leaf, n, x =>
    match n with
    | 0 => node leaf x leaf
    | k + 1 => match Nat.beq (k % 2) 0 with
      | true => node (setF f leaf (k / 2) x) none leaf
      | false => node leaf none (setF f leaf (k / 2) x)
  | f + 1, node l v r, n, x =>
    match n with
    | 0 => node l x r
    | k + 1 => match Nat.beq (k % 2) 0 with
      | true => node (setF f l (k / 2) x) v r
      | false => node l v (setF f r (k / 2) x)
def set (t : T α) (n : Nat) (x : Option α) : T α := setF (n + 1) t n x
def ofList : List α → Nat → T α → T α
  | [], _, t => t
  | x :: xs, i, t => ofList xs (i + 1) (t.set i (some x))
end T

/-! ### Values and the heap -/
inductive AV where
  | und
  | bool (b : Bool)
  | int (k : IntKind) (n : Int)
  | float (k : FloatKind) (bits : Nat)
  | str (s : List UInt8)
  | ptr (a : Option (Nat × Nat))
  | sl (a : Option (Nat × Nat)) (len cap : Nat) (slack : Bool)
  /-- The empty rest of a slice whose true capacity isn't known: where it stands hangs on that. -/
  | sle (b off adv : Nat)
  | map (r : Option Nat)
  | func (f : Nat) (first captured : List AV)
  | yieldF (l : Nat)
  | nilFunc
  | iface (t : TypeId) (v : AV)
  | nilIface
  | agg (cs : List AV)
  | tup (vs : List AV)
  deriving Inhabited

def AV.cells : AV → List AV
  | .agg cs => cs
  | v => [v]

/-- May it stand in one cell? -/
def AV.one : AV → Bool
  | .agg _ | .tup _ | .und => false
  | _ => true

inductive AObj where
  | cells (vs : List AV) (elem : TypeId) (slack ro : Bool) (fz : Nat)
  | map (es : List (AV × AV))
  | loop (state : LoopState) (pending : Option Code) (fn size : Nat) (tmps : T AV) (params : Array Tmp) (assign body : Code) (defers : Nat)
  | deferred (open_ : Bool)
  | strIter (s : List UInt8) (pos : Nat)

structure AH where
  t : T AObj
  next : Nat

def AH.get (H : AH) (b : Nat) : Option AObj := H.t.get b
def AH.put (H : AH) (b : Nat) (o : AObj) : AH := { H with t := H.t.set b (some o) }
def AH.kill (H : AH) (b : Nat) : AH := { H with t := H.t.set b none }
def AH.new (H : AH) (o : AObj) : AH := { t := H.t.set H.next (some o), next := H.next + 1 }

/-! ### Frames -/
structure PStep where
  i : Nat
  o : Oper
  act : Bool
  anc : List Nat
  re : List Nat

inductive AItem where
  | code (c : Code)
  | inBlock (id : Nat)
  | inScope (body : Code)
  | inLoop (body : Code)
  | reg (ops : Array Oper) (draw : Bool) (rest : List PStep)
  | inRangeFunc (loop : Nat)
  | endRangeFunc (loop : Nat)
  | beginRound

structure APanic where
  v : AV
  recovered : Bool

inductive AMode where
  | run
  | returning
  | panicking (chain : List APanic)

inductive ADefer where
  | fn (f : Nat) (args captured : List AV)
  | mark (r : Nat)

structure AFrame where
  fn : Nat
  size : Nat
  tmps : T AV
  todo : List AItem
  defers : List ADefer
  mode : AMode
  kind : CallKind
  roundOf : Option Nat

structure AM where
  fr : AFrame
  cs : List AFrame
  H : AH

/-! ### Operands -/
def ofConst : Value → Option AV
  | .bool b => some (.bool b)
  | .int k n => some (.int k n)
  | .float k b => some (.float k b)
  | .string s => some (.str s.data.toList)
  | .pointer none => some (.ptr none)
  | .slice none 0 0 => some (.sl none 0 0 false)
  | .map none => some (.map none)
  | .func (.func f) a b => match a.toList, b.toList with
    | [], [] => some (.func f [] [])
    | _, _ => none
  | .nilFunc => some .nilFunc
  | .nilIface => some .nilIface
  | _ => none

def tget (t : T AV) (i : Nat) : AV := match t.get i with | some v => v | none => .und

def aev (P : Program) (t : T AV) : Operand → Option AV
  | .tmp i => some (tget t i)
  | .const v => ofConst v
  | .global g => match Nat.blt g P.globals.size with
    | true => some (.ptr (some (g, 0)))
    | false => none
  | .func f => some (.func f [] [])

def aevs (P : Program) (t : T AV) : List Operand → Option (List AV)
  | [] => some []
  | x :: xs => match aev P t x with
    | none => none
    | some v => match aevs P t xs with
      | none => none
      | some vs => some (v :: vs)

/-! ### Cells -/
def sizeOfT (P : Program) (t : TypeId) : Option Nat := (P.info? t).map (·.size)
def aggT (P : Program) (t : TypeId) : Option Bool := match P.underlying t with
  | some (.struct _) | some (.array _ _) => some true
  | some _ => some false
  | none => none

def takeN : Nat → List AV → Option (List AV)
  | 0, _ => some []
  | _ + 1, [] => none
  | n + 1, x :: xs => match takeN n xs with
    | some l => some (x :: l)
    | none => none
def dropN : Nat → List AV → List AV
  | 0, l => l
  | _ + 1, [] => []
  | n + 1, _ :: xs => dropN n xs
/-- Lay xs over l from place n on; none: they don't lie within. -/
def layAt : Nat → List AV → List AV → Option (List AV)
  | 0, [], l => some l
  | 0, _ :: _, [] => none
  | 0, x :: xs, _ :: l => match layAt 0 xs l with
    | some r => some (x :: r)
    | none => none
  | _ + 1, _, [] => none
  | n + 1, xs, y :: l => match layAt n xs l with
    | some r => some (y :: r)
    | none => none

def loadN (H : AH) (b off n : Nat) : Option (List AV) :=
  match n with
  | 0 => some []
  | _ => match H.get b with
    | some (.cells vs _ _ _ _) => takeN n (dropN off vs)
    | _ => none

def allOne : List AV → Bool
  | [] => true
  | x :: xs => match x.one with
    | true => allOne xs
    | false => false

def storeN (H : AH) (b off : Nat) (xs : List AV) : Option AH :=
  match xs with
  | [] => some H
  | _ => match H.get b with
    | some (.cells vs e s false fz) =>
      match allOne xs && Nat.ble fz off with
      | true => match layAt off xs vs with
        | some vs' => some (H.put b (.cells vs' e s false fz))
        | none => none
      | false => none
    | _ => none

def loadT (P : Program) (H : AH) (t : TypeId) (b off : Nat) : Option AV :=
  match aggT P t with
  | some true => match sizeOfT P t with
    | some n => match loadN H b off n with
      | some l => some (.agg l)
      | none => none
    | none => none
  | some false => match loadN H b off 1 with
    | some [v] => some v
    | _ => none
  | none => none

def lenEq : List AV → Nat → Bool
  | [], 0 => true
  | [], _ + 1 => false
  | _ :: _, 0 => false
  | _ :: l, n + 1 => lenEq l n

def storeT (P : Program) (H : AH) (t : TypeId) (b off : Nat) (v : AV) : Option AH :=
  match sizeOfT P t with
  | some n => match lenEq v.cells n with
    | true => storeN H b off v.cells
    | false => none
  | none => none

/-! ### Values out of the program's tables -/
def ofConstL : List Value → Option (List AV)
  | [] => some []
  | x :: xs => match ofConst x with
    | none => none
    | some v => match ofConstL xs with
      | none => none
      | some vs => some (v :: vs)

/-- A zero value: one cell, or an aggregate of plain cells. -/
def zeroOf (P : Program) (t : TypeId) : Option AV :=
  match P.info? t with
  | some i => match i.zero with
    | some (.agg cs) => match ofConstL cs.toList with
      | some l => some (.agg l)
      | none => none
    | some v => ofConst v
    | none => none
  | none => none

def partOf (P : Program) (t : TypeId) (cs : List AV) (off : Nat) : Option AV :=
  match aggT P t with
  | some true => match sizeOfT P t with
    | some n => match takeN n (dropN off cs) with
      | some l => some (.agg l)
      | none => none
    | none => none
  | some false => match dropN off cs with
    | v :: _ => some v
    | [] => none
  | none => none

def repeatL (xs : List AV) : Nat → List AV
  | 0 => []
  | n + 1 => xs ++ repeatL xs n

/-- 'fill' on lists: the parts laid at their places. -/
def afill (place : Nat → Option (Nat × Nat)) (cells : List AV) : List (Nat × AV) → Option (List AV)
  | [] => some cells
  | (i, v) :: rest =>
    match place i with
    | none => none
    | some (off, size) => match lenEq v.cells size with
      | true => match layAt off v.cells cells with
        | some cells' => afill place cells' rest
        | none => none
      | false => none

def placesOf (P : Program) : List Field → Option (List (Nat × Nat))
  | [] => some []
  | f :: fs => match sizeOfT P f.type with
    | none => none
    | some n => match placesOf P fs with
      | none => none
      | some l => some ((f.offset, n) :: l)
def nthP : List (Nat × Nat) → Nat → Option (Nat × Nat)
  | [], _ => none
  | x :: _, 0 => some x
  | _ :: l, n + 1 => nthP l n

def aparts (P : Program) (t : T AV) : List (Nat × Operand) → Option (List (Nat × AV))
  | [] => some []
  | (i, x) :: xs => match aev P t x with
    | none => none
    | some v => match aparts P t xs with
      | none => none
      | some vs => some ((i, v) :: vs)

/-! ### Equality -/
def bytesEq : List UInt8 → List UInt8 → Bool
  | [], [] => true
  | a :: x, b :: y => match Nat.beq a.toNat b.toNat with
    | true => bytesEq x y
    | false => false
  | _, _ => false
def bytesLt : List UInt8 → List UInt8 → Bool
  | _, [] => false
  | [], _ :: _ => true
  | a :: x, b :: y => match Nat.blt a.toNat b.toNat with
    | true => true
    | false => match Nat.beq a.toNat b.toNat with
      | true => bytesLt x y
      | false => false

def kindEq : IntKind → IntKind → Bool
  | .i8, .i8 | .i16, .i16 | .i32, .i32 | .i64, .i64 | .u8, .u8 | .u16, .u16 | .u32, .u32 | .u64, .u64 => true
  | _, _ => false

def fkindEq : FloatKind → FloatKind → Bool
  | .f32, .f32 | .f64, .f64 => true
  | _, _ => false

def intEq (a b : Int) : Bool := decide (a = b)

/-- The fields' equality, one behind the other. -/
def aeqFields (eq : TypeId → AV → AV → Option Bool) (P : Program) : List Field → List AV → List AV → Option Bool
  | [], _, _ => some true
  | f :: fs, xs, ys =>
    match f.name == "_" with
    | true => aeqFields eq P fs xs ys
    | false => match partOf P f.type xs f.offset, partOf P f.type ys f.offset with
      | some x, some y => match eq f.type x y with
        | some true => aeqFields eq P fs xs ys
        | some false => some false
        | none => none
      | _, _ => none

def aeq (P : Program) : Nat → TypeId → AV → AV → Option Bool
  | 0, _, _, _ => none
  | d + 1, t, x, y =>
    match P.underlying t with
    | none => none
    | some u => match u, x, y with
      | .bool, .bool a, .bool b => some (a == b)
      | .int _, .int k a, .int k' b => match kindEq k k' with
        | true => some (intEq a b)
        | false => none
      | .string, .str a, .str b => some (bytesEq a b)
      | .pointer _, .ptr none, .ptr none => some true
      | .pointer _, .ptr none, .ptr (some _) => some false
      | .pointer _, .ptr (some _), .ptr none => some false
      | .interface _, .nilIface, .nilIface => some true
      | .interface _, .nilIface, .iface _ _ => some false
      | .interface _, .iface _ _, .nilIface => some false
      | .struct fields, .agg xs, .agg ys =>
        match P.stoodInHeld t with
        | true => none
        | false => aeqFields (aeq P d) P fields.toList xs ys
      | .slice _, .sl none _ _ _, .sl none _ _ _ => some true
      | .slice _, .sl none _ _ _, .sl (some _) _ _ _ => some false
      | .slice _, .sl (some _) _ _ _, .sl none _ _ _ => some false
      | .map _ _, .map none, .map none => some true
      | .map _ _, .map none, .map (some _) => some false
      | .map _ _, .map (some _), .map none => some false
      | .func _ _ _, .nilFunc, .nilFunc => some true
      | .func _ _ _, .nilFunc, .func _ _ _ => some false
      | .func _ _ _, .func _ _ _, .nilFunc => some false
      | .pointer e, .ptr (some (b, o)), .ptr (some (b', o')) => match Nat.beq b b' && Nat.beq o o', sizeOfT P e with
        | true, some _ => some true
        | _, _ => none
      | _, _, _ => none

def eqDepth : Nat := 12

/-- May it be a map's key, as it stands? -/
def akeyFields (ok : TypeId → AV → Bool) (P : Program) : List Field → List AV → Bool
  | [], _ => true
  | f :: fs, xs =>
    match f.name == "_" with
    | true => akeyFields ok P fs xs
    | false => match partOf P f.type xs f.offset with
      | some x => match ok f.type x with
        | true => akeyFields ok P fs xs
        | false => false
      | none => false
def akey (P : Program) : Nat → TypeId → AV → Bool
  | 0, _, _ => false
  | d + 1, t, v =>
    match P.underlying t, v with
    | some (.int _), .int _ _ => true
    | some .string, .str _ => true
    | some .bool, .bool _ => true
    | some (.struct fs), .agg cs => akeyFields (akey P d) P fs.toList cs
    | _, _ => false

def afind (eq : AV → AV → Option Bool) (k : AV) : List (AV × AV) → Nat → Option (Option (Nat × AV))
  | [], _ => some none
  | (k', v) :: es, i =>
    match eq k k' with
    | some true => some (some (i, v))
    | some false => afind eq k es (i + 1)
    | none => none

def setNth (x : AV) : Nat → List (AV × AV) → List (AV × AV)
  | _, [] => []
  | 0, (k, _) :: es => (k, x) :: es
  | n + 1, e :: es => e :: setNth x n es
def dropNth : Nat → List (AV × AV) → List (AV × AV)
  | _, [] => []
  | 0, _ :: es => es
  | n + 1, e :: es => e :: dropNth n es
def isNil : List (AV × AV) → Bool
  | [] => true
  | _ => false

/-! ### Pure operations and reads -/
def aint : AV → Option Int
  | .int _ n => some n
  | _ => none

def isConst : Operand → Bool
  | .const _ => true
  | _ => false

/-- Two values that are held against each other by their type's equality alone. -/
def plainPair : AV → AV → Bool
  | .bool _, .bool _ | .ptr none, .ptr _ | .ptr _, .ptr none | .nilIface, .iface _ _ | .iface _ _, .nilIface => true
  | .sl none _ _ _, .sl _ _ _ _ | .sl _ _ _ _, .sl none _ _ _ | .map none, .map _ | .map _, .map none => true
  | .nilFunc, .nilFunc | .nilFunc, .func _ _ _ | .func _ _ _, .nilFunc => true
  | .ptr (some _), .ptr (some _) => true
  | _, _ => false

def abin (P : Program) (op : BinOp) (t : TypeId) (cst : Bool) (x y : AV) : Option AV :=
  match x, y with
  | .int k a, .int k' b =>
    match op with
    | .shl => match decide (b < 0) with
      | true => none
      | false => some (.int k (k.wrap (a * 2 ^ (min b.toNat k.bits))))
    | .shr => match decide (b < 0) with
      | true => none
      | false => some (.int k (a.fdiv (2 ^ (min b.toNat k.bits))))
    | op => match kindEq k k' with
      | false => none
      | true => match op with
        | .add => some (.int k (k.wrap (a + b)))
        | .sub => some (.int k (k.wrap (a - b)))
        | .mul => some (.int k (k.wrap (a * b)))
        | .quo => match intEq b 0 with
          | true => none
          | false => some (.int k (k.wrap (a.tdiv b)))
        | .rem => match intEq b 0 with
          | true => none
          | false => some (.int k (a.tmod b))
        | .and => some (.int k (k.wrap (BitVec.ofInt k.bits a &&& BitVec.ofInt k.bits b).toNat))
        | .or => some (.int k (k.wrap (BitVec.ofInt k.bits a ||| BitVec.ofInt k.bits b).toNat))
        | .xor => some (.int k (k.wrap (BitVec.ofInt k.bits a ^^^ BitVec.ofInt k.bits b).toNat))
        | .eql => some (.bool (intEq a b))
        | .neq => some (.bool (!intEq a b))
        | .lss => some (.bool (decide (a < b)))
        | .leq => some (.bool (decide (a ≤ b)))
        | .gtr => some (.bool (decide (b < a)))
        | .geq => some (.bool (decide (b ≤ a)))
        | _ => none
  | .str a, .str b =>
    match op with
    | .add => match Nat.ble (a.length + b.length) 9223372036854775807 with
      | true => some (.str (a ++ b))
      | false => none
    | .eql => some (.bool (bytesEq a b))
    | .neq => some (.bool (!bytesEq a b))
    | .lss => some (.bool (bytesLt a b))
    | .leq => some (.bool (bytesLt a b || bytesEq a b))
    | .gtr => some (.bool (!(bytesLt a b || bytesEq a b)))
    | .geq => some (.bool (!bytesLt a b))
    | _ => none
  | .float k a, .float k' b =>
    match fkindEq k k' with
    | false => none
    | true => match op with
      | .eql => some (.bool (k.format.order a b == some .eq))
      | .neq => some (.bool (k.format.order a b != some .eq))
      | .lss => some (.bool (k.format.order a b == some .lt))
      | .leq => some (.bool (k.format.order a b == some .lt || k.format.order a b == some .eq))
      | .gtr => some (.bool (k.format.order a b == some .gt))
      | .geq => some (.bool (k.format.order a b == some .gt || k.format.order a b == some .eq))
      | _ => none
  | .nilIface, .nilIface => match cst with
    | false => none
    | true => match op with
      | .eql => (aeq P eqDepth t x y).map .bool
      | .neq => (aeq P eqDepth t x y).map fun b => .bool (!b)
      | _ => none
  | .agg _, .agg _ =>
    match P.eqGuardType P.depth t with
    | true => none
    | false => match op with
      | .eql => (aeq P eqDepth t x y).map .bool
      | .neq => (aeq P eqDepth t x y).map fun b => .bool (!b)
      | _ => none
  | x, y =>
    match plainPair x y with
    | false => none
    | true => match op with
      | .eql => (aeq P eqDepth t x y).map .bool
      | .neq => (aeq P eqDepth t x y).map fun b => .bool (!b)
      | _ => none

def aun (op : UnOp) (x : AV) : Option AV :=
  match op, x with
  | .neg, .int k n => some (.int k (k.wrap (0 - n)))
  | .xor, .int k n => some (.int k (k.wrap (BitVec.ofInt k.bits (match k.signed with | true => -1 | false => k.max) ^^^ BitVec.ofInt k.bits n).toNat))
  | .not, .bool b => some (.bool !b)
  | _, _ => none

def aconv (P : Program) (src dst : TypeId) (x : AV) : Option AV :=
  match P.underlying src, P.underlying dst, x with
  | some _, some (.int k), .int _ n => some (.int k (k.wrap n))
  | some _, some .string, .str s => some (.str s)
  | _, _, _ => none

/-- A pointer seen as unsafe.Pointer, and back. -/
def aconvP (P : Program) (H : AH) (src dst : TypeId) (x : AV) : Option AV :=
  match P.underlying src, P.underlying dst, x with
  | some (.pointer _), some .unsafePointer, .ptr none => some (.ptr none)
  | some (.pointer t), some .unsafePointer, .ptr (some (b, off)) => match sizeOfT P t, H.get b with
    | some (_ + 1), some (.cells vs _ _ _ _) => match Nat.blt off vs.length with
      | true => some (.ptr (some (b, off)))
      | false => none
    | _, _ => none
  | some .unsafePointer, some (.pointer _), .ptr none => some (.ptr none)
  | some .unsafePointer, some (.pointer u), .ptr (some (b, off)) => match sizeOfT P u, H.get b with
    | some _, some (.cells vs e false _ _) => match liesAt P P.depth e (vs.length / P.cellsOf e) off u 1 with
      | true => some (.ptr (some (b, off)))
      | false => none
    | _, _ => none
  | _, _, _ => none

def nth : List AV → Nat → Option AV
  | [], _ => none
  | x :: _, 0 => some x
  | _ :: l, n + 1 => nth l n

def nthB : List UInt8 → Nat → Option UInt8
  | [], _ => none
  | x :: _, 0 => some x
  | _ :: l, n + 1 => nthB l n

def abound (x : Option AV) (dflt lim : Nat) : Option Nat :=
  match x with
  | none => some dflt
  | some (.int _ i) => match decide (0 ≤ i) && decide (i ≤ (lim : Int)) with
    | true => some i.toNat
    | false => none
  | _ => none

/-- An optional operand: outer none: it can't be read. -/
def aevo (P : Program) (t : T AV) : Option Operand → Option (Option AV)
  | none => some none
  | some x => match aev P t x with
    | some v => some (some v)
    | none => none

def aslice (P : Program) (t : TypeId) (x : AV) (lo hi mx : Option AV) : Option AV :=
  match P.underlying t, x with
  | some .string, .str s =>
    match mx with
    | some _ => none
    | none => match abound hi s.length s.length with
      | none => none
      | some h => match abound lo 0 h with
        | none => none
        | some l => some (.str ((s.take h).drop l))
  | some (.slice e), .sl a len cap slack =>
    match sizeOfT P e with
    | none => none
    | some size =>
      match mx with
      | none => match abound hi len cap with
        | none => none
        | some h => match abound lo 0 h with
          | none => none
          | some l =>
            match Nat.ble h cap with
            | false => none
            | true =>
            match Nat.beq cap l && slack with
            | true => match a with
              | some (b, o) => some (.sle b o (l * size))
              | none => none
            | false => some (.sl (match Nat.beq cap l with | true => a | false => a.map fun (b, o) => (b, o + l * size)) (h - l) (cap - l) slack)
      | some _ => match abound mx cap cap with
        | none => none
        | some m => match hi with
          | none => none
          | some hv => match abound (some hv) len m with
            | none => none
            | some h => match abound lo 0 h with
              | none => none
              | some l => some (.sl (match Nat.beq m l with | true => a | false => a.map fun (b, o) => (b, o + l * size)) (h - l) (m - l) false)
  | some (.array n e), .ptr (some (b, o)) =>
    match sizeOfT P e with
    | none => none
    | some size =>
      match mx with
      | some _ => none
      | none => match abound hi n n with
        | none => none
        | some h => match abound lo 0 h with
          | none => none
          | some l => some (.sl (some (match Nat.beq n l with | true => (b, o) | false => (b, o + l * size))) (h - l) (n - l) false)
  | _, _ => none

def fieldsOf (P : Program) (t : TypeId) : Option (List Field) :=
  match P.underlying t with
  | some (.struct fs) => some fs.toList
  | _ => none
def nthF : List Field → Nat → Option Field
  | [], _ => none
  | x :: _, 0 => some x
  | _ :: l, n + 1 => nthF l n

def mapOf (H : AH) : AV → Option (List (AV × AV))
  | .map none => some []
  | .map (some r) => match H.get r with
    | some (.map es) => some es
    | _ => none
  | _ => none

def alookup (P : Program) (H : AH) (t : TypeId) (x k : AV) (ok : Bool) : Option AV :=
  match P.underlying t with
  | some (.map key elem) =>
    match akey P eqDepth key k with
    | false => none
    | true =>
      match mapOf H x with
      | none => none
      | some es => match afind (aeq P eqDepth key) k es 0 with
        | none => none
        | some (some (_, v)) => some (match ok with | true => .tup [v, .bool true] | false => v)
        | some none => match zeroOf P elem with
          | some z => some (match ok with | true => .tup [z, .bool false] | false => z)
          | none => none
  | _ => none

def amin2 : AV → AV → Option AV
  | .int k x, .int _ y => some (.int k (match decide (y < x) with | true => y | false => x))
  | _, _ => none
def amax2 : AV → AV → Option AV
  | .int k x, .int _ y => some (.int k (match decide (x < y) with | true => y | false => x))
  | _, _ => none
def afold (f : AV → AV → Option AV) : AV → List AV → Option AV
  | x, [] => some x
  | x, y :: l => match f x y with
    | some z => afold f z l
    | none => none

def alen (P : Program) (H : AH) (t : TypeId) (x : AV) : Option AV :=
  match P.underlying t, x with
  | some .string, .str s => some (.int .i64 s.length)
  | some (.slice _), .sl _ n _ _ => some (.int .i64 n)
  | some (.slice _), .sle _ _ _ => some (.int .i64 0)
  | some (.map _ _), .map none => some (.int .i64 0)
  | some (.map _ _), .map (some r) => match H.get r with
    | some (.map es) => some (.int .i64 es.length)
    | _ => none
  | some (.array n _), _ => some (.int .i64 n)
  | _, _ => none

/-- The quiet built-ins. -/
def aquietB (P : Program) (H : AH) (b : Builtin) (ts : List TypeId) (args : List AV) : Option AV :=
  match b, ts, args with
  | .len, t :: _, x :: _ => alen P H t x
  | .min, _, x :: rest => afold amin2 x rest
  | .max, _, x :: rest => afold amax2 x rest
  | .unsafeSliceData, _, [.sl none _ _ _] => some (.ptr none)
  | .unsafeSliceData, _, [.sl (some (b, o)) _ (_ + 1) _] => some (.ptr (some (b, o)))
  | _, _, _ => none

/-- What only reckons or reads; none: it isn't such an operation, or it doesn't go through. -/
def apure (P : Program) (H : AH) (t : T AV) (o : Oper) : Option AV :=
  match o.op with
  | .move x => aev P t x
  | .pick c a b => match aev P t c, aev P t a, aev P t b with
    | some (.bool true), some x, some _ => some x
    | some (.bool false), some _, some y => some y
    | _, _, _ => none
  | .build ty parts => match aparts P t parts.toList, zeroOf P ty, P.underlying ty with
    | some ps, some (.agg z), some (.struct fs) => match placesOf P fs.toList with
      | none => none
      | some pl => match afill (nthP pl) z ps with
        | some l => some (.agg l)
        | none => none
    | some ps, some (.agg z), some (.array _ e) => match sizeOfT P e with
      | some n => match afill (fun i => some (i * n, n)) z ps with
        | some l => some (.agg l)
        | none => none
      | none => none
    | _, _, _ => none
  | .load ty a => match aev P t a with
    | some (.ptr (some (b, off))) => loadT P H ty b off
    | _ => none
  | .nilCheck x => match aev P t x with
    | some (.ptr (some a)) => some (.ptr (some a))
    | some (.func f a b) => some (.func f a b)
    | some (.yieldF l) => some (.yieldF l)
    | some (.iface ty v) => some (.iface ty v)
    | _ => none
  | .binOp op ty x y _ => match aev P t x, aev P t y with
    | some a, some b => abin P op ty (isConst x || isConst y) a b
    | _, _ => none
  | .unOp op _ x => match aev P t x with
    | some a => aun op a
    | none => none
  | .convert src dst x => match aev P t x with
    | some (.ptr p) => aconvP P H src dst (.ptr p)
    | some a => aconv P src dst a
    | none => none
  | .makeInterface ty x => match aev P t x, P.underlying ty with
    | some _, some (.interface _) => none
    | some a, some _ => some (.iface ty a)
    | _, _ => none
  | .makeFunc (.func f) first cap => match aevs P t first.toList, aevs P t cap.toList with
    | some a, some b => some (.func f a b)
    | _, _ => none
  | .slice ty x lo hi mx => match aev P t x, aevo P t lo, aevo P t hi, aevo P t mx with
    | some a, some l, some h, some m => aslice P ty a l h m
    | _, _, _, _ => none
  | .fieldAddr s x f => match aev P t x, fieldsOf P s with
    | some (.ptr (some (b, off))), some fs => match nthF fs f with
      | some fd => match sizeOfT P fd.type with
        | some (_ + 1) => some (.ptr (some (b, off + fd.offset)))
        | _ => none
      | none => none
    | _, _ => none
  | .field ty x f => match aev P t x, fieldsOf P ty with
    | some (.agg cs), some fs => match nthF fs f with
      | some fd => partOf P fd.type cs fd.offset
      | none => none
    | _, _ => none
  | .indexAddr ty x ix => match aev P t x, aev P t ix, P.underlying ty with
    | some (.sl (some (b, off)) len _ _), some (.int _ i), some (.slice e) =>
      match decide (0 ≤ i) && decide (i < (len : Int)), sizeOfT P e with
      | true, some n => some (.ptr (some (b, off + i.toNat * n)))
      | _, _ => none
    | some (.ptr (some (b, off))), some (.int _ i), some (.array len e) =>
      match decide (0 ≤ i) && decide (i < (len : Int)), sizeOfT P e with
      | true, some n => some (.ptr (some (b, off + i.toNat * n)))
      | _, _ => none
    | _, _, _ => none
  | .index ty x ix => match aev P t x, aev P t ix, P.underlying ty with
    | some (.agg cs), some (.int _ i), some (.array len e) =>
      match decide (0 ≤ i) && decide (i < (len : Int)), sizeOfT P e with
      | true, some n => partOf P e cs (i.toNat * n)
      | _, _ => none
    | some (.str s), some (.int _ i), some .string =>
      match decide (0 ≤ i) with
      | true => match nthB s i.toNat with
        | some b => some (.int .u8 b.toNat)
        | none => none
      | false => none
    | _, _, _ => none
  | .lookup ty x k ok => match aev P t x, aev P t k with
    | some m, some k => alookup P H ty m k ok
    | _, _ => none
  | .typeAssert x _ asserted true => match aev P t x, P.underlying asserted with
    | some _, some (.interface _) => none
    | some .nilIface, some _ => match zeroOf P asserted with
      | some z => some (.tup [z, .bool false])
      | none => none
    | some (.iface ty v), some _ => match Nat.beq ty asserted with
      | true => some (.tup [v, .bool true])
      | false => match zeroOf P asserted with
        | some z => some (.tup [z, .bool false])
        | none => none
    | _, _ => none
  | .extract x ix => match aev P t x with
    | some (.tup vs) => nth vs ix
    | _ => none
  | .call { callee := .builtin b, args, argTypes } => match aevs P t args.toList with
    | some vs => aquietB P H b argTypes.toList vs
    | none => none
  | _ => none

/-! ### Operations that only make an object -/
structure Fresh where
  obj : AObj
  val : Nat → AV

def afresh (P : Program) (t : T AV) (o : Oper) : Option Fresh :=
  match o.op with
  | .alloc e => match zeroOf P e with
    | some z => match allOne z.cells with
      | true => some ⟨.cells z.cells e false false 0, fun b => .ptr (some (b, 0))⟩
      | false => none
    | none => none
  | .box e x => match aev P t x with
    | some v => match allOne v.cells with
      | true => some ⟨.cells v.cells e false false 0, fun b => .ptr (some (b, 0))⟩
      | false => none
    | none => none
  | .buildSlice ty len parts => match aparts P t parts.toList, P.underlying ty with
    | some ps, some (.slice e) => match sizeOfT P e with
      | some (size + 1) => match zeroOf P e with
        | some z => match lenEq z.cells (size + 1) && Nat.ble (len * (size + 1)) 16777216 with
          | true => match afill (fun i => some (i * (size + 1), (size + 1))) (repeatL z.cells len) ps with
            | some l => match allOne l with
              | true => some ⟨.cells l e false false 0, fun b => .sl (some (b, 0)) len len false⟩
              | false => none
            | none => none
          | false => none
        | none => none
      | _ => none
    | _, _ => none
  | .makeSlice ty l c => match aev P t l, aev P t c, P.underlying ty with
    | some (.int _ l), some (.int _ c), some (.slice e) => match P.info? e with
      | some i => match i.size with
        | size + 1 => match zeroOf P e with
          | some z => match lenEq z.cells (size + 1) && decide (0 ≤ l) && decide (l ≤ c) && decide (c ≤ 1000000) && Nat.ble (i.bytes * 1000000) 281474976710656 && allOne z.cells with
            | true => some ⟨.cells (repeatL z.cells c.toNat) e false false 0, fun b => .sl (some (b, 0)) l.toNat c.toNat false⟩
            | false => none
          | none => none
        | 0 => none
      | none => none
    | _, _, _ => none
  | .makeMap _ none => some ⟨.map [], fun b => .map (some b)⟩
  | .convert src dst x => match aev P t x, P.underlying src, P.underlying dst with
    | some (.str (b :: s)), some .string, some (.slice e) => match P.underlying e, sizeOfT P e with
      | some (.int .u8), some 1 => some ⟨.cells ((b :: s).map fun c => .int .u8 c.toNat) e true true 0, fun X => .sl (some (X, 0)) (s.length + 1) (s.length + 1) true⟩
      | _, _ => none
    | _, _, _ => none
  | .range ty x => match aev P t x, P.underlying ty with
    | some (.str s), some .string => some ⟨.strIter s 0, fun b => .ptr (some (b, 0))⟩
    | _, _ => none
  | _ => none

/-! ### Active operations -/
inductive AR where
  | val (v : AV) (H : AH)
  | enter (f : Nat) (args : List AV)
  | round (l : Nat) (args : List AV)
  | defer (d : ADefer)
  | panic (v : AV)
  | recover

def acells (P : Program) (H : AH) (e : TypeId) (n : Nat) (x : AV) : Option (List AV) :=
  match sizeOfT P e, x with
  | some size, .sl (some (b, off)) _ _ _ => loadN H b off (n * size)
  | some _, .sl none _ _ _ => match n with
    | 0 => some []
    | _ => none
  | some _, .sle _ _ _ => match n with
    | 0 => some []
    | _ => none
  | some 1, .str s => some ((s.take n).map fun b => .int .u8 b.toNat)
  | _, _ => none

def alenOf : AV → Option Nat
  | .sl _ n _ _ => some n
  | .sle _ _ _ => some 0
  | .str s => some s.length
  | _ => none

def aappendAt (P : Program) (H : AH) (e : TypeId) (base : Option (Nat × Nat)) (len cap : Nat) (slack : Bool) (x : AV) : Option AR :=
  match P.info? e with
  | none => none
  | some i =>
  match i.size, i.bytes with
  | size + 1, bytes + 1 =>
    match alenOf x with
    | none => none
    | some n =>
    match acells P H e n x with
    | none => none
    | some xs =>
    match Nat.ble (len + n) cap with
    | true =>
      match base with
      | none => match xs with
        | [] => some (.val (.sl none (len + n) cap slack) H)
        | _ => none
      | some (b, off) => match storeN H b (off + len * (size + 1)) xs with
        | some H' => some (.val (.sl (some (b, off)) (len + n) cap slack) H')
        | none => none
    | false =>
      match zeroOf P e with
      | none => none
      | some z =>
      match lenEq z.cells (size + 1) && allOne xs && Nat.ble ((2 * (len + n)) * (bytes + 1)) 281474976710656 && Nat.ble (len + n) 9223372036854775807 with
      | false => none
      | true =>
      match base with
      | none => match len with
        | 0 => some (.val (.sl (some (H.next, 0)) n n true) (H.new (.cells xs e true false 0)))
        | _ => none
      | some (b, off) => match H.get b with
        | some (.cells vs e' bs ro fz) => match takeN (len * (size + 1)) (dropN off vs) with
          | none => none
          | some old =>
            match slack with
            | false => some (.val (.sl (some (H.next, 0)) (len + n) (len + n) true) (H.new (.cells (old ++ xs) e true false 0)))
            | true =>
              match bs && !ro && Nat.beq e' e && Nat.beq (off + cap * (size + 1)) vs.length && Nat.ble fz (off + len * (size + 1)) with
              | false => none
              | true => some (.val (.sl (some (H.next, 0)) (len + n) (len + n) true) ((H.kill b).new (.cells (old ++ xs) e true false (fz - off))))
        | _ => none
  | _, _ => none

def aappend (P : Program) (H : AH) (ts : List TypeId) (args : List AV) : Option AR :=
  match ts, args with
  | [sT, xT], [.sl base len cap slack, x] =>
    match P.underlying sT, P.underlying xT with
    | some (.slice e), some (.slice _) => aappendAt P H e base len cap slack x
    | some (.slice e), some .string => aappendAt P H e base len cap slack x
    | _, _ => none
  | _, _ => none

def acopy (P : Program) (H : AH) (ts : List TypeId) (args : List AV) : Option AR :=
  match ts, args with
  | dT :: _, [.sl base dLen _ _, src] =>
    match P.underlying dT with
    | some (.slice e) =>
      match alenOf src with
      | none => none
      | some sl =>
      let n := Nat.min sl dLen
      match acells P H e n src with
      | none => none
      | some xs =>
        match base with
        | none => some (.val (.int .i64 n) H)
        | some (b, off) => match storeN H b off xs with
          | some H' => some (.val (.int .i64 n) H')
          | none => none
    | _ => none
  | _, _ => none

def adelete (P : Program) (H : AH) (ts : List TypeId) (args : List AV) : Option AR :=
  match ts, args with
  | mT :: _, [.map (some r), k] =>
    match P.underlying mT with
    | some (.map key _) =>
      match akey P eqDepth key k, H.get r with
      | true, some (.map es) => match afind (aeq P eqDepth key) k es 0 with
        | none => none
        | some (some (i, _)) => some (.val (.tup []) (H.put r (.map (dropNth i es))))
        | some none => some (.val (.tup []) (H.put r (.map es)))
      | _, _ => none
    | _ => none
  | _, _ => none

def aclear (P : Program) (H : AH) (ts : List TypeId) (args : List AV) : Option AR :=
  match ts, args with
  | t :: _, [.sl base n _ _] =>
    match P.underlying t with
    | some (.slice e) =>
      match base, n with
      | none, _ => some (.val (.tup []) H)
      | some _, 0 => some (.val (.tup []) H)
      | some (b, off), n + 1 => match zeroOf P e, sizeOfT P e with
        | some z, some (size + 1) => match lenEq z.cells (size + 1) with
          | true => match storeN H b off (repeatL z.cells (n + 1)) with
            | some H' => some (.val (.tup []) H')
            | none => none
          | false => none
        | _, _ => none
    | _ => none
  | _, _ => none

mutual
def avEq : AV → AV → Bool
  | .und, .und => true
  | .bool a, .bool b => a == b
  | .int k a, .int k' b => kindEq k k' && intEq a b
  | .float k a, .float k' b => fkindEq k k' && Nat.beq a b
  | .str a, .str b => bytesEq a b
  | .ptr none, .ptr none => true
  | .ptr (some (b, o)), .ptr (some (b', o')) => Nat.beq b b' && Nat.beq o o'
  | .sl none n c s, .sl none n' c' s' => Nat.beq n n' && Nat.beq c c' && (s == s')
  | .sl (some (b, o)) n c s, .sl (some (b', o')) n' c' s' => Nat.beq b b' && Nat.beq o o' && Nat.beq n n' && Nat.beq c c' && (s == s')
  | .sle b o a, .sle b' o' a' => Nat.beq b b' && Nat.beq o o' && Nat.beq a a'
  | .map none, .map none => true
  | .map (some a), .map (some b) => Nat.beq a b
  | .func f a c, .func f' a' c' => Nat.beq f f' && avEqL a a' && avEqL c c'
  | .yieldF a, .yieldF b => Nat.beq a b
  | .nilFunc, .nilFunc => true
  | .iface t v, .iface t' v' => Nat.beq t t' && avEq v v'
  | .nilIface, .nilIface => true
  | .agg a, .agg b => avEqL a b
  | .tup a, .tup b => avEqL a b
  | _, _ => false
def avEqL : List AV → List AV → Bool
  | [], [] => true
  | a :: x, b :: y => avEq a b && avEqL x y
  | _, _ => false
end

/-- A number, a text, a bool, or some of these together. -/
def flat1 : AV → Bool
  | .bool _ | .int _ _ | .str _ => true
  | _ => false
def flatL : List AV → Bool
  | [] => true
  | x :: xs => match flat1 x with
    | true => flatL xs
    | false => false
def flatAV : AV → Bool
  | .agg l => flatL l
  | x => flat1 x
def keyAt : List (AV × AV) → Nat → Option AV
  | [], _ => none
  | (k, _) :: _, 0 => some k
  | _ :: l, n + 1 => keyAt l n

def amapUpdate (P : Program) (H : AH) (t : TypeId) (x k v : AV) : Option AR :=
  match P.underlying t, x with
  | some (.map key _), .map (some r) =>
    match akey P eqDepth key k, H.get r with
    | true, some (.map es) => match afind (aeq P eqDepth key) k es 0 with
      | none => none
      | some (some (i, _)) => match keyAt es i with
        | none => none
        | some k' => match avEq k k' && flatAV k with
          | true => some (.val .und (H.put r (.map (setNth v i es))))
          | false => none
      | some none => some (.val .und (H.put r (.map (es ++ [(k, v)]))))
    | _, _ => none
  | _, _ => none

/-- Is it a function with a body that is entered as it stands? -/
def enterable (P : Program) (f : Nat) : Bool :=
  match P.funcs[f]? with
  | some fn => match fn.name == "runtime.NumGoroutine" with
    | true => false
    | false => fn.body.isSome
  | none => false

def indexByteL (c : Int) : List UInt8 → Nat → Int
  | [], _ => -1
  | b :: l, i => match intEq (b.toNat : Int) c with
    | true => (i : Int)
    | false => indexByteL c l (i + 1)
def prefixL : List UInt8 → List UInt8 → Bool
  | [], _ => true
  | _ :: _, [] => false
  | a :: x, b :: y => match Nat.beq a.toNat b.toNat with
    | true => prefixL x y
    | false => false
def indexL (x : List UInt8) : List UInt8 → Nat → Int
  | [], _ => -1
  | b :: l, i => match prefixL x (b :: l) with
    | true => (i : Int)
    | false => indexL x l (i + 1)

def gidx (name : String) : List Global → Nat → Option Nat
  | [], _ => none
  | g :: l, i => match g.name == name with
    | true => some i
    | false => gidx name l (i + 1)

def aextern (P : Program) (H : AH) (g : Nat) (vs : List AV) : Option AR :=
  match P.funcs[g]? with
  | none => none
  | some fn => match fn.body with
    | some _ => none
    | none => match fn.origin == "" with
      | false => none
      | true => match fn.name, vs with
        | "internal/bytealg.IndexByteString", [.str s, .int .u8 c] => some (.val (.int .i64 (indexByteL (c.toNat.toUInt8.toNat : Int) s 0)) H)
        | "internal/bytealg.IndexString", [.str s, .str x] =>
          match gidx "internal/bytealg.MaxLen" P.globals.toList 0 with
          | none => none
          | some gl => match Nat.blt gl P.globals.size, loadN H gl 0 1 with
            | true, some [.int .i64 mx] =>
              match Nat.ble 2 x.length && decide ((x.length : Int) ≤ mx) && Nat.blt s.length 4294967281 with
              | true => some (.val (.int .i64 (indexL x s 0)) H)
              | false => none
            | _, _ => none
        | "math.Float64bits", [.float .f64 b] => some (.val (.int .u64 b) H)
        | "math.Float64frombits", [.int .u64 n] => some (.val (.float .f64 n.toNat) H)
        | "internal/abi.NoEscape", [.ptr a] => some (.val (.ptr a) H)
        | _, _ => none

def dropB : Nat → List UInt8 → List UInt8
  | 0, l => l
  | _ + 1, [] => []
  | n + 1, _ :: l => dropB n l

def bytesOfL : List AV → Option (List UInt8)
  | [] => some []
  | .int .u8 n :: l => match bytesOfL l with
    | some r => some (n.toNat.toUInt8 :: r)
    | none => none
  | _ :: _ => none
def maxN (a b : Nat) : Nat := match Nat.ble a b with
  | true => b
  | false => a
def aunsafeString (P : Program) (H : AH) (ts : List TypeId) (args : List AV) : Option AR :=
  match ts, args with
  | pt :: _, [.ptr a, .int _ (.ofNat n)] =>
    match n with
    | 0 => some (.val (.str []) H)
    | n + 1 => match a with
      | none => none
      | some (b, off) => match P.underlying pt, H.get b with
        | some (.pointer e'), some (.cells vs e s false fz) =>
          match Nat.beq e' e && Nat.ble (n + 1) 9223372036854775807, sizeOfT P e, takeN (n + 1) (dropN off vs) with
          | true, some 1, some l => match bytesOfL l with
            | some r => some (.val (.str r) (H.put b (.cells vs e s false (maxN fz (off + (n + 1))))))
            | none => none
          | _, _, _ => none
        | _, _ => none
  | _, _ => none

def acall (P : Program) (H : AH) (t : T AV) (c : Call) : Option AR :=
  match aevs P t c.args.toList with
  | none => none
  | some vs =>
    match c.callee with
    | .value f => match aev P t f with
      | some (.func g first cap) => match enterable P g with
        | true => some (.enter g (first ++ vs ++ cap))
        | false => aextern P H g (first ++ vs ++ cap)
      | some (.yieldF l) => some (.round l vs)
      | _ => none
    | .builtin .append => aappend P H c.argTypes.toList vs
    | .builtin .copy => acopy P H c.argTypes.toList vs
    | .builtin .delete => adelete P H c.argTypes.toList vs
    | .builtin .clear => aclear P H c.argTypes.toList vs
    | .builtin .unsafeString => aunsafeString P H c.argTypes.toList vs
    | .builtin .recover => some .recover
    | _ => none

/-- One letter of plain text. -/
def anext (H : AH) (x : AV) : Option AR :=
  match x with
  | .ptr (some (r, 0)) => match H.get r with
    | some (.strIter s pos) => match dropB pos s with
      | [] => some (.val (.tup [.bool false]) H)
      | b :: _ => match Nat.blt b.toNat 128 with
        | true => some (.val (.tup [.bool true, .int .i64 pos, .int .i32 b.toNat]) (H.put r (.strIter s (pos + 1))))
        | false => none
    | _ => none
  | _ => none

def aact (P : Program) (H : AH) (t : T AV) (o : Oper) : Option AR :=
  match o.op with
  | .assign x => match aev P t x with
    | some v => some (.val v H)
    | none => none
  | .store ty a v => match aev P t a, aev P t v with
    | some (.ptr (some (b, off))), some x => match storeT P H ty b off x with
      | some H' => some (.val .und H')
      | none => none
    | _, _ => none
  | .mapUpdate ty m k v => match aev P t m, aev P t k, aev P t v with
    | some x, some y, some z => amapUpdate P H ty x y z
    | _, _, _ => none
  | .insert ty m k v => match aev P t m, aev P t k, aev P t v with
    | some x, some y, some z => amapUpdate P H ty x y z
    | _, _, _ => none
  | .call c => acall P H t c
  | .next x true => match aev P t x with
    | some v => anext H v
    | none => none
  | .defer c => match aevs P t c.args.toList with
    | none => none
    | some vs => match c.callee with
      | .value f => match aev P t f with
        | some (.func g first cap) => match enterable P g with
          | true => some (.defer (.fn g (first ++ vs) cap))
          | false => none
        | _ => none
      | _ => none
  | .panic x => match aev P t x with
    | some (.iface ty v) => some (.panic (.iface ty v))
    | _ => none
  | _ => none

/-! ### Which class, and the plan of a region -/
inductive Cls where
  | pure | fresh | active
  deriving DecidableEq

def isQuietB : Builtin → Bool
  | .len | .min | .max | .unsafeSliceData | .cap => true
  | _ => false

def cls : Op → Cls
  | .alloc _ | .box .. | .buildSlice .. | .makeSlice .. | .makeMap .. | .range .. => .fresh
  | .next .. | .store .. | .mapUpdate .. | .insert .. | .defer _ | .panic _ | .assign _ => .active
  | .call { callee := .builtin b, .. } => if isQuietB b then .pure else .active
  | .call _ => .active
  | _ => .pure

/-- A quiet operation makes an object, or it doesn't. -/
def qcls (P : Program) (op : Op) : Cls := match op with
  | .convert src dst _ => match P.underlying src, P.underlying dst with
    | some .string, some (.slice _) => .fresh
    | _, _ => .pure
  | op => cls op

/-- Does it look into memory? -/
def looks : Op → Bool
  | .load .. | .lookup .. | .convert .. => true
  | .call { callee := .builtin .len, .. } => true
  | _ => false

def memN : Nat → List Nat → Bool
  | _, [] => false
  | n, x :: xs => match Nat.beq n x with
    | true => true
    | false => memN n xs

/-- The binding edges. -/
def deps (o : Oper) : List Nat := o.after.toList.filterMap fun e => match e.ground with
  | .textOnly _ | .gcOnly _ => none
  | _ => some e.on

def tmpsIn : List Operand → List Nat
  | [] => []
  | .tmp t :: xs => t :: tmpsIn xs
  | _ :: xs => tmpsIn xs

structure OI where
  i : Nat
  o : Oper
  act : Bool
  seg : Nat
  anc : List Nat

def ancOf : List OI → Nat → List Nat
  | [], _ => []
  | x :: xs, n => match Nat.beq x.i n with
    | true => x.anc
    | false => ancOf xs n
def ancs (acc : List OI) : List Nat → List Nat
  | [] => []
  | d :: ds => d :: (ancOf acc d ++ ancs acc ds)
def nub : List Nat → List Nat
  | [] => []
  | x :: xs => match memN x xs with
    | true => nub xs
    | false => x :: nub xs
def segOf (anc : List Nat) : List OI → Nat
  | [] => 0
  | x :: xs => match x.act && memN x.i anc with
    | true => segOf anc xs + 1
    | false => segOf anc xs
def allBelow (n : Nat) : List Nat → Bool
  | [] => true
  | x :: xs => match Nat.blt x n with
    | true => allBelow n xs
    | false => false
def guardIn (anc : List Nat) : Option (Nat × Bool) → Bool
  | none => true
  | some (j, _) => memN j anc
def isAct (o : Oper) : Bool := match cls o.op with
  | .active => true
  | _ => false
/-- The operations' places; the last one first; none: the active ones don't stand in one order. -/
def infos : List Oper → Nat → Nat → List OI → Option (List OI)
  | [], _, _, acc => some acc
  | o :: os, i, na, acc =>
    let ds := deps o
    match allBelow i ds with
    | false => none
    | true =>
      let an := nub (ancs acc ds)
      let sg := segOf an acc
      let ac := isAct o
      match guardIn an o.guard && (!ac || Nat.beq sg na) with
      | false => none
      | true => infos os (i + 1) (match ac with | true => na + 1 | false => na) ({ i, o, act := ac, seg := sg, anc := an } :: acc)

def quietAt (p : Nat) : List OI → List PStep
  | [] => []
  | x :: xs => match !x.act && Nat.beq x.seg p with
    | true => { i := x.i, o := x.o, act := x.act, anc := x.anc, re := [] } :: quietAt p xs
    | false => quietAt p xs
def recheckOf (p : Nat) (anc : List Nat) : List OI → List Nat
  | [] => []
  | x :: xs => match !x.act && looks x.o.op && Nat.ble x.seg p && !memN x.i anc with
    | true => x.i :: recheckOf p anc xs
    | false => recheckOf p anc xs
def activeAt (p : Nat) (all : List OI) : List OI → List PStep
  | [] => []
  | x :: xs => match x.act && Nat.beq x.seg p with
    | true => [{ i := x.i, o := x.o, act := x.act, anc := x.anc, re := recheckOf p x.anc all }]
    | false => activeAt p all xs
def eager (all : List OI) : Nat → Nat → List PStep
  | 0, p => quietAt p all
  | k + 1, p => quietAt p all ++ (activeAt p all all ++ eager all k (p + 1))
def countAct : List OI → Nat
  | [] => 0
  | x :: xs => match x.act with
    | true => countAct xs + 1
    | false => countAct xs
def revOI : List OI → List OI → List OI
  | [], acc => acc
  | x :: xs, acc => revOI xs (x :: acc)

def planSeq : List Oper → Nat → List PStep
  | [], _ => []
  | o :: os, i => { i, o, act := false, anc := [], re := [] } :: planSeq os (i + 1)

/-! The plan is held against what the proof asks. -/
def dstIs (d : Option Nat) (l : List Nat) : Bool := match d with
  | none => false
  | some d => memN d l
def dstSame : Option Nat → Option Nat → Bool
  | some a, some b => Nat.beq a b
  | _, _ => false
/-- q stands ahead of p in the plan. -/
def pairOk (q p : PStep) : Bool :=
  !Nat.beq q.i p.i && !dstSame q.o.dst p.o.dst &&
  (match q.act with
    | true => memN q.i p.anc
    | false =>
      -- p writes nothing that q may still read; p reads what q writes only behind it; what q has read is held again
      (!dstIs p.o.dst (tmpsIn q.o.op.operands.toList) || (p.act && memN q.i p.anc)) &&
      (!dstIs q.o.dst (tmpsIn p.o.op.operands.toList) || memN q.i p.anc) &&
      (!p.act || !looks q.o.op || memN q.i p.anc || memN q.i p.re))
def pairsOk (p : PStep) : List PStep → Bool
  | [] => true
  | q :: qs => match pairOk q p with
    | true => pairsOk p qs
    | false => false
def inPlan (i : Nat) : List PStep → Bool
  | [] => false
  | p :: ps => match Nat.beq p.i i with
    | true => true
    | false => inPlan i ps
def ancFrom (a : Nat) (ds : List Nat) : List PStep → Bool
  | [] => false
  | q :: qs => match memN q.i ds && memN a q.anc with
    | true => true
    | false => ancFrom a ds qs
def ancsOk (done : List PStep) (ds : List Nat) : List Nat → Bool
  | [] => true
  | a :: as => match inPlan a done && (memN a ds || ancFrom a ds done) with
    | true => ancsOk done ds as
    | false => false
def subN : List Nat → List Nat → Bool
  | [], _ => true
  | x :: xs, l => match memN x l with
    | true => subN xs l
    | false => false
def stepOk (done : List PStep) (p : PStep) : Bool :=
  ancsOk done (deps p.o) p.anc && subN (deps p.o) p.anc && guardIn p.anc p.o.guard && (p.act == isAct p.o) &&
  (match p.act with
    | true => true
    | false => match p.o.dst with
      | none => false
      | some d => !memN d (tmpsIn p.o.op.operands.toList))
/-- done: the last one first. -/
def okFrom (done : List PStep) : List PStep → Bool
  | [] => true
  | p :: ps => match stepOk done p && pairsOk p done with
    | true => okFrom (p :: done) ps
    | false => false
def coverB (ps : List PStep) : Nat → Bool
  | 0 => true
  | n + 1 => match inPlan n ps with
    | true => coverB ps n
    | false => false
def lenIs : List Oper → List PStep → Bool
  | [], [] => true
  | _ :: a, _ :: b => lenIs a b
  | _, _ => false

def planDraw (ops : List Oper) : Option (List PStep) :=
  match infos ops 0 0 [] with
  | none => none
  | some l =>
    let all := revOI l []
    let ps := eager all (countAct all) 0
    match okFrom [] ps && coverB ps ops.length with
    | true => some ps
    | false => none

def plan (ops : Array Oper) (draw : Bool) : Option (List PStep) :=
  match draw with
  | false => some (planSeq ops.toList 0)
  | true => planDraw ops.toList

/-! ### The step -/
def nthO : List Oper → Nat → Option Oper
  | [], _ => none
  | x :: _, 0 => some x
  | _ :: l, n + 1 => nthO l n

def awanted (ops : Array Oper) (t : T AV) (o : Oper) : Bool :=
  match o.guard with
  | none => true
  | some (j, want) => match nthO ops.toList j with
    | some g => match g.dst with
      | some d => match tget t d with
        | .bool b => b == want
        | _ => false
      | none => false
    | none => false

def aput (size : Nat) (t : T AV) (d : Option Nat) (v : AV) : Option (T AV) :=
  match d with
  | none => some t
  | some d => match Nat.blt d size with
    | true => some (t.set d (some v))
    | false => none

/-- Are the reads that may still come the same? -/
def recheck (P : Program) (H : AH) (ops : Array Oper) (t : T AV) : List Nat → Bool
  | [] => true
  | i :: is => match nthO ops.toList i with
    | none => false
    | some o => match o.dst with
      | none => false
      | some d => match awanted ops t o with
        | false => recheck P H ops t is
        | true => match apure P H t o with
          | none => false
          | some v => match avEq v (tget t d) with
            | true => recheck P H ops t is
            | false => false

/-- An operation has come to a value: on, in its region. -/
def afinish (P : Program) (fr : AFrame) (H : AH) (v : AV) : Option AFrame :=
  match fr.todo with
  | .reg ops dr (p :: rest) :: k => match aput fr.size fr.tmps p.o.dst v with
    | none => none
    | some t => match recheck P H ops t p.re with
      | true => some { fr with tmps := t, todo := .reg ops dr rest :: k }
      | false => none
  | .inRangeFunc l :: k => some { fr with todo := .endRangeFunc l :: k }
  | _ => none

def aenter (P : Program) (f : Nat) (args : List AV) (kind : CallKind) : Option AFrame :=
  match P.funcs[f]? with
  | none => none
  | some fn => match fn.body with
    | none => none
    | some c => match Nat.ble args.length fn.ntmps with
      | true => some { fn := f, size := fn.ntmps, tmps := T.ofList args 0 .leaf, todo := [.code c], defers := [], mode := .run, kind, roundOf := none }
      | false => none

def aexitTo (id : Nat) : List AItem → Option (List AItem)
  | .inBlock id' :: k => match Nat.beq id' id with
    | true => some k
    | false => aexitTo id k
  | _ :: k => aexitTo id k
  | [] => none

def resTmps : List ResultVar → List Nat
  | [] => []
  | .tmp t :: l => t :: resTmps l
  | .cell t _ :: l => t :: resTmps l
def disj : List Nat → List PStep → Bool
  | _, [] => true
  | l, p :: ps => match p.o.dst with
    | none => disj l ps
    | some d => match memN d l with
      | true => false
      | false => disj l ps
/-- May a panic pass through here: what is left to be read of it stands beside its region. -/
def mayRaise (P : Program) (fr : AFrame) : Bool :=
  match fr.roundOf with
  | some _ => false
  | none =>
  match fr.todo with
  | .reg ops true _ :: _ => match P.funcs[fr.fn]?, planDraw ops.toList with
    | some fn, some ps => disj (resTmps fn.results.toList) ps
    | _, _ => false
  | _ => true

def araised (u : AMode) (chain : List APanic) : AMode :=
  match u with
  | .panicking old => .panicking (chain ++ old)
  | _ => .panicking chain

def asettle : AMode → AMode
  | .panicking (⟨_, true⟩ :: _) => .returning
  | m => m

def aresults (P : Program) (H : AH) (t : T AV) : List ResultVar → Option (List AV)
  | [] => some []
  | .tmp i :: l => match aresults P H t l with
    | some vs => some (tget t i :: vs)
    | none => none
  | .cell a ty :: l => match tget t a with
    | .ptr (some (b, off)) => match loadT P H ty b off with
      | some v => match aresults P H t l with
        | some vs => some (v :: vs)
        | none => none
      | none => none
    | _ => none
def aresult (P : Program) (H : AH) (t : T AV) (rs : List ResultVar) : Option AV :=
  match aresults P H t rs with
  | some [v] => some v
  | some vs => some (.tup vs)
  | none => none

def aendRound (H : AH) (l : Nat) (jump : Option Code) : Option (AV × AH) :=
  match H.get l with
  | some (.loop _ _ fn size tmps ps as body ds) => some (.bool jump.isNone, H.put l (.loop (match jump with | none => .ready | some _ => .done) jump fn size tmps ps as body ds))
  | _ => none

/-- The frame ends with a value: back to the caller. -/
def aback (P : Program) (kind : CallKind) (v : AV) (cs : List AFrame) (H : AH) : Option AM :=
  match cs with
  | [] => none
  | c :: cs => match kind with
    | .normal => match c.mode with
      | .run => match afinish P c H v with
        | some c' => some ⟨c', cs, H⟩
        | none => none
      | _ => none
    | .deferred => match c.mode with
      | .run => none
      | _ => some ⟨{ c with mode := asettle c.mode }, cs, H⟩
    | _ => none

def setArgs (size : Nat) : List Nat → List AV → T AV → Option (T AV)
  | [], [], t => some t
  | p :: ps, v :: vs, t => match Nat.blt p size with
    | true => setArgs size ps vs (t.set p (some v))
    | false => none
  | _, _, _ => none

/-- One operation of a region. -/
def aoper (P : Program) (fr : AFrame) (cs : List AFrame) (H : AH) (ops : Array Oper) (p : PStep) : Option AM :=
  match awanted ops fr.tmps p.o with
  | false => match afinish P fr H .und with
    | some fr' => some ⟨fr', cs, H⟩
    | none => none
  | true => match qcls P p.o.op with
    | .pure => match apure P H fr.tmps p.o with
      | none => none
      | some v => match afinish P fr H v with
        | some fr' => some ⟨fr', cs, H⟩
        | none => none
    | .fresh => match afresh P fr.tmps p.o with
      | none => none
      | some x => match afinish P fr (H.new x.obj) (x.val H.next) with
        | some fr' => some ⟨fr', cs, H.new x.obj⟩
        | none => none
    | .active => match aact P H fr.tmps p.o with
      | none => none
      | some (.val v H') => match afinish P fr H' v with
        | some fr' => some ⟨fr', cs, H'⟩
        | none => none
      | some (.enter f args) => match aenter P f args .normal with
        | some fr' => some ⟨fr', fr :: cs, H⟩
        | none => none
      | some (.round l args) => match H.get l with
        | some (.loop _ _ fn size tmps ps as body _) => match setArgs size ps.toList args tmps with
          | some t => some ⟨{ fn, size, tmps := t, todo := [.code as, .beginRound, .code body], defers := [], mode := .run, kind := .normal, roundOf := some l }, fr :: cs, H⟩
          | none => none
        | _ => none
      | some (.defer d) => match fr.roundOf with
        | some _ => none
        | none => match afinish P { fr with defers := d :: fr.defers } H .und with
          | some fr' => some ⟨fr', cs, H⟩
          | none => none
      | some (.panic v) => match mayRaise P fr with
        | true => some ⟨{ fr with mode := .panicking [⟨v, false⟩] }, cs, H⟩
        | false => none
      | some .recover => match fr.kind, fr.roundOf, cs with
        | .deferred, none, c :: cs => match c.mode with
          | .panicking (⟨v, false⟩ :: older) => match afinish P fr H v with
            | some fr' => some ⟨fr', { c with mode := .panicking (⟨v, true⟩ :: older) } :: cs, H⟩
            | none => none
          | _ => match afinish P fr H .nilIface with
            | some fr' => some ⟨fr', c :: cs, H⟩
            | none => none
        | _, _, _ => none

/-- A round, or a function, is left. -/
def aleave (P : Program) (fr : AFrame) (cs : List AFrame) (H : AH) (jump : Option Code) : Option AM :=
  match fr.roundOf with
  | none => match jump with
    | none | some .ret => some ⟨{ fr with mode := .returning }, cs, H⟩
    | _ => none
  | some l => match fr.kind with
    | .normal => match aendRound H l jump with
      | some (v, H') => aback P .normal v cs H'
      | none => none
    | _ => none

def aexec (P : Program) (fr : AFrame) (cs : List AFrame) (H : AH) : Option AM :=
  match fr.todo with
  | [] => aleave P fr cs H none
  | .code .ret :: _ => aleave P fr cs H (some .ret)
  | .code .skip :: k | .code (.label _) :: k | .inBlock _ :: k | .inScope _ :: k => some ⟨{ fr with todo := k }, cs, H⟩
  | .code (.scope body) :: k => some ⟨{ fr with todo := .code body :: .inScope body :: k }, cs, H⟩
  | .code (.seq a b) :: k => some ⟨{ fr with todo := .code a :: .code b :: k }, cs, H⟩
  | .code (.cond c a b) :: k => match aev P fr.tmps c with
    | some (.bool true) => some ⟨{ fr with todo := .code a :: k }, cs, H⟩
    | some (.bool false) => some ⟨{ fr with todo := .code b :: k }, cs, H⟩
    | _ => none
  | .code (.block id body) :: k => some ⟨{ fr with todo := .code body :: .inBlock id :: k }, cs, H⟩
  | .code (.loop body) :: k | .inLoop body :: k => some ⟨{ fr with todo := .code body :: .inLoop body :: k }, cs, H⟩
  | .code (.exit id) :: k => match aexitTo id k with
    | some k' => some ⟨{ fr with todo := k' }, cs, H⟩
    | none => match fr.roundOf with
      | some _ => aleave P fr cs H (some (.exit id))
      | none => none
  | .code (.region _ ops dr) :: k => match plan ops dr with
    | some ps => some ⟨{ fr with todo := .reg ops dr ps :: k }, cs, H⟩
    | none => none
  | .reg _ _ [] :: k => some ⟨{ fr with todo := k }, cs, H⟩
  | .reg ops _ (p :: _) :: _ => aoper P fr cs H ops p
  | .code (.rangeFunc f params assign body) :: k => match fr.roundOf with
    | some _ => none
    | none => match aev P fr.tmps f with
      | some (.func g first cap) => match enterable P g with
        | true =>
          let H1 := H.new (.deferred true)
          let H2 := H1.new (.loop .ready none fr.fn fr.size fr.tmps params assign body H.next)
          match aenter P g (first ++ [.yieldF H1.next] ++ cap) .normal with
          | some fr' => some ⟨fr', { fr with todo := .inRangeFunc H1.next :: k, defers := .mark H.next :: fr.defers } :: cs, H2⟩
          | none => none
        | false => none
      | _ => none
  | .beginRound :: k => match fr.roundOf with
    | some l => match H.get l with
      | some (.loop .ready pe fn size tmps ps as body ds) => some ⟨{ fr with todo := k }, cs, H.put l (.loop .busy pe fn size tmps ps as body ds)⟩
      | _ => none
    | none => none
  | .endRangeFunc l :: k => match H.get l with
    | some (.loop .busy _ _ _ _ _ _ _ _) => none
    | some (.loop _ pe fn size tmps ps as body ds) =>
      let H' := H.put l (.loop .exhausted pe fn size tmps ps as body ds)
      match pe with
      | none => some ⟨{ fr with todo := k }, cs, H'⟩
      | some c => some ⟨{ fr with todo := .code c :: k }, cs, H'⟩
    | _ => none
  | _ => none

def aunwind (P : Program) (fr : AFrame) (cs : List AFrame) (H : AH) : Option AM :=
  match fr.roundOf with
  | some _ => none
  | none =>
  match fr.defers with
  | .mark r :: ds => match H.get r with
    | some (.deferred true) => some ⟨{ fr with defers := ds }, cs, H.put r (.deferred false)⟩
    | _ => none
  | .fn f args cap :: ds => match enterable P f with
    | true => match aenter P f (args ++ cap) .deferred with
      | some fr' => some ⟨fr', { fr with defers := ds } :: cs, H⟩
      | none => none
    | false => none
  | [] => match fr.mode with
    | .run => none
    | .panicking chain => match P.funcs[fr.fn]? with
      | none => none
      | some _ => match cs with
        | c :: cs => match mayRaise P c with
          | true => some ⟨{ c with mode := araised c.mode chain }, cs, H⟩
          | false => none
        | [] => none
    | .returning => match P.funcs[fr.fn]? with
      | none => none
      | some fn => match aresult P H fr.tmps fn.results.toList with
        | none => none
        | some v => aback P fr.kind v cs H

def astep (P : Program) (m : AM) : Option AM :=
  match m.fr.mode with
  | .run => aexec P m.fr m.cs m.H
  | _ => aunwind P m.fr m.cs m.H

/-- Has the outermost call come to a value? -/
def adone (P : Program) (f : Nat) (m : AM) : Option AV :=
  match m.cs, m.fr.mode, m.fr.defers, m.fr.roundOf, m.fr.kind with
  | [], .returning, [], none, .normal => match Nat.beq m.fr.fn f with
    | true => match P.funcs[f]? with
      | some fn => aresult P m.H m.fr.tmps fn.results.toList
      | none => none
    | false => none
  | _, _, _, _, _ => none

def arun (P : Program) (f : Nat) : Nat → AM → Option (AV × AH)
  | 0, _ => none
  | n + 1, m => match adone P f m with
    | some v => some (v, m.H)
    | none => match astep P m with
      | some m' => arun P f n m'
      | none => none

end Go.AE
