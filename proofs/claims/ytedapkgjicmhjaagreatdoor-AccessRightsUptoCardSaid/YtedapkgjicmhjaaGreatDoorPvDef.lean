/- A part of the proof that AccessRights returns true wherever its input is of bulk at most 1048576: what the functions that it reaches answer. No theorem of the claim stands here. -/
import Derived.Calls
import Derived.Scope
import Derived.Orders
import Derived.Laws.Sem
import Derived.Laws.World
import Derived.Below
namespace Go.Pv

/-- Abstract values. 'lst' is a slice that nobody will change (its elements are lists of cells), 'cptr' a pointer into such memory; 'arr', 'ptr', 'map', 'iter' lead to objects of the abstract heap. -/
inductive AV where
  | bool (b : Bool)
  | int (k : IntKind) (n : Int)
  | str (s : List UInt8)
  | nilp
  | cptr (e : List AV)
  | ptr (id i o : Nat)
  | nils
  | lst (sz : Nat) (es : List (List AV)) (full : Bool)
  | arr (id off len cap sz : Nat) (loose : Bool)
  | map (id : Nat)
  | nilm
  | iter (id : Nat)
  | fn (f : FuncId) (caps : List AV)
  | nilf
  | iface (t : TypeId) (v : AV)
  | nili
  | agg (cs : List AV)
  | tup (vs : List AV)
  deriving Inhabited

/-- What a slot holds that was not written. -/
abbrev AV.no : AV := .tup []

/-- Objects of the abstract heap. -/
inductive AO where
  | row (es : List (List AV)) (frozen : Bool)
  | map (es : List (AV × AV × Nat)) (clock : Nat)
  | iter (m : Option Nat) (since : Nat) (seen : List Nat) (stepped : Nat)
  | dead
  deriving Inhabited

abbrev Hp := Nat → AO
def upd (h : Hp) (i : Nat) (o : AO) : Hp := fun j => if j = i then o else h j
def updW (h : Hp) : List (Nat × AO) → Hp
  | [] => h
  | (i, o) :: r => updW (upd h i o) r

def putE (env : Nat → AV) (t : Nat) (v : AV) : Nat → AV := fun j => if j = t then v else env j
def putO (env : Nat → AV) (d : Option Tmp) (v : AV) : Nat → AV :=
  match d with
  | some t => putE env t v
  | none => env

/-- The tables and constants of a run. -/
structure Ctx where
  P : Program
  gl : Nat → List AV
  TP : FuncId → Option (List AV → Option AV)
  TI : FuncId → List AV → Nat → Hp → Option (AV × List (Nat × AO) × Nat)
  χ : Nat → Nat

/-! ### closed values, types -/
def zavC : Value → Option AV
  | .bool b => some (.bool b)
  | .int k n => some (.int k n)
  | .string s => some (.str s.data.toList)
  | .pointer none => some .nilp
  | .slice none 0 0 => some .nils
  | .map none => some .nilm
  | .nilFunc => some .nilf
  | .nilIface => some .nili
  | _ => none
def zav : Value → Option AV
  | .agg cs => (cs.toList.mapM zavC).map .agg
  | v => zavC v

def AV.cells : AV → List AV
  | .agg cs => cs
  | v => [v]
def AV.one : AV → Bool
  | .agg _ | .tup _ => false
  | _ => true

def tSize (P : Program) (t : TypeId) : Option Nat := (P.info? t).map (·.size)
def tBytes (P : Program) (t : TypeId) : Option Nat := (P.info? t).map (·.bytes)
def tZero (P : Program) (t : TypeId) : Option AV := (P.info? t).bind fun i => i.zero.bind zav
def tIsAgg (P : Program) (t : TypeId) : Option Bool := (P.underlying t).map fun | .struct _ | .array _ _ => true | _ => false
/-- The element type of a slice type. -/
def tElem (P : Program) (t : TypeId) : Option TypeId := match P.underlying t with | some (.slice e) => some e | _ => none
def tArr (P : Program) (t : TypeId) : Option (Nat × TypeId) := match P.underlying t with | some (.array n e) => some (n, e) | _ => none
def tIsStr (P : Program) (t : TypeId) : Bool := match P.underlying t with | some .string => true | _ => false
def tInt (P : Program) (t : TypeId) : Option IntKind := match P.underlying t with | some (.int k) => some k | _ => none
def tMap (P : Program) (t : TypeId) : Option (TypeId × TypeId) := match P.underlying t with | some (.map k e) => some (k, e) | _ => none
/-- A field's offset and type. -/
def tField (P : Program) (s : TypeId) (f : Nat) : Option (Nat × TypeId) :=
  match P.underlying s with
  | some (.struct fs) => (fs[f]?).map fun x => (x.offset, x.type)
  | _ => none
/-- Kinds of scalars. -/
inductive KD where
  | b
  | i
  | s
  deriving DecidableEq, Inhabited
def tKind1 (P : Program) (t : TypeId) : Option KD := match P.underlying t with | some .bool => some .b | some (.int _) => some .i | some .string => some .s | _ => none
/-- A struct all of whose fields are scalars, field i in cell i: the fields' kinds. -/
def tKinds (P : Program) (t : TypeId) : Option (List KD) :=
  match P.underlying t with
  | some (.struct fs) =>
    if (!P.stoodInHeld t && !P.eqGuardType P.depth t && (fs.toList.zipIdx.all fun (f, i) => f.name != "_" && f.offset == i)) = true then fs.toList.mapM fun f => tKind1 P f.type else none
  | _ => none
def kindOf : AV → Option KD
  | .bool _ => some .b
  | .int _ _ => some .i
  | .str _ => some .s
  | _ => none
def fitL : List KD → List AV → Bool
  | [], [] => true
  | k :: ks, x :: xs => (kindOf x == some k) && fitL ks xs
  | _, _ => false

/-! ### reading and writing cells -/
def readAt (P : Program) (t : TypeId) (cells : List AV) : Option AV :=
  match tIsAgg P t with
  | some true => match tSize P t with
    | some n => if n ≤ cells.length then some (.agg (cells.take n)) else none
    | none => none
  | some false => cells.head?
  | none => none
def setAt (e : List AV) (o : Nat) (vs : List AV) : List AV := e.take o ++ vs ++ e.drop (o + vs.length)
def writeAt (P : Program) (t : TypeId) (e : List AV) (o : Nat) (v : AV) : Option (List AV) :=
  if tSize P t = some v.cells.length ∧ o + v.cells.length ≤ e.length ∧ v.cells.all AV.one = true then some (setAt e o v.cells) else none

/-! ### operators -/
def intA (op : BinOp) (k : IntKind) (a b : Int) : Option AV :=
  match op with
  | .add => some (.int k (k.wrap (a + b)))
  | .sub => some (.int k (k.wrap (a - b)))
  | .mul => some (.int k (k.wrap (a * b)))
  | .quo => if b = 0 then none else some (.int k (k.wrap (a.tdiv b)))
  | .rem => if b = 0 then none else some (.int k (a.tmod b))
  | .and => some (.int k (k.wrap (BitVec.ofInt k.bits a &&& BitVec.ofInt k.bits b).toNat))
  | .or => some (.int k (k.wrap (BitVec.ofInt k.bits a ||| BitVec.ofInt k.bits b).toNat))
  | .xor => some (.int k (k.wrap (BitVec.ofInt k.bits a ^^^ BitVec.ofInt k.bits b).toNat))
  | .andNot => some (.int k (k.wrap (BitVec.ofInt k.bits a &&& ~~~(BitVec.ofInt k.bits b)).toNat))
  | .eql => some (.bool (decide (a = b)))
  | .neq => some (.bool (!decide (a = b)))
  | .lss => some (.bool (decide (a < b)))
  | .leq => some (.bool (decide (a ≤ b)))
  | .gtr => some (.bool (decide (b < a)))
  | .geq => some (.bool (decide (b ≤ a)))
  | _ => none
def shiftA (op : BinOp) (k : IntKind) (a b : Int) : Option AV :=
  if b < 0 then none else
  match op with
  | .shl => some (.int k (k.wrap (a * 2 ^ (min b.toNat k.bits))))
  | .shr => some (.int k (a.fdiv (2 ^ (min b.toNat k.bits))))
  | _ => none
def strA (op : BinOp) (a b : List UInt8) : Option AV :=
  match op with
  | .add => if a.length + b.length ≤ 4611686018427387904 then some (.str (a ++ b)) else none
  | .eql => some (.bool (a == b))
  | .neq => some (.bool (!(a == b)))
  | .lss => some (.bool (Op.bytesLess a b))
  | .leq => some (.bool (Op.bytesLess a b || a == b))
  | .gtr => some (.bool (!(Op.bytesLess a b || a == b)))
  | .geq => some (.bool (!Op.bytesLess a b))
  | _ => none
/-- Equality of two scalars of one kind. -/
def eq1 : AV → AV → Option Bool
  | .bool a, .bool b => some (a == b)
  | .int k a, .int k' b => if k = k' then some (decide (a = b)) else none
  | .str a, .str b => some (a == b)
  | _, _ => none
def eqL : List AV → List AV → Option Bool
  | [], [] => some true
  | a :: x, b :: y => match eq1 a b, eqL x y with
    | some p, some q => some (p && q)
    | _, _ => none
  | _, _ => none
/-- Is a value of a kind that has a nil the nil of its kind? -/
def isNil : AV → Option Bool
  | .nilp | .nils | .nilm | .nilf | .nili => some true
  | .cptr _ | .ptr .. | .lst .. | .arr .. | .map _ | .fn .. | .iface .. => some false
  | _ => none
/-- '==' at type t, on what is no number and no string. -/
def eqA (P : Program) (t : TypeId) (x y : AV) : Option Bool :=
  match x, y with
  | .bool a, .bool b => match P.underlying t with | some .bool => some (a == b) | _ => none
  | .agg a, .agg b => match tKinds P t with
    | some ks => if fitL ks a = true ∧ fitL ks b = true then eqL a b else none
    | none => none
  | .nilp, y => match P.underlying t with | some (.pointer _) => (match y with | .nilp => some true | .cptr _ | .ptr .. => some false | _ => none) | _ => none
  | x, .nilp => match P.underlying t with | some (.pointer _) => (match x with | .cptr _ | .ptr .. => some false | _ => none) | _ => none
  | .nils, y => match P.underlying t with | some (.slice _) => (match y with | .nils => some true | .lst .. | .arr .. => some false | _ => none) | _ => none
  | x, .nils => match P.underlying t with | some (.slice _) => (match x with | .lst .. | .arr .. => some false | _ => none) | _ => none
  | .nilm, y => match P.underlying t with | some (.map _ _) => (match y with | .nilm => some true | .map _ => some false | _ => none) | _ => none
  | x, .nilm => match P.underlying t with | some (.map _ _) => (match x with | .map _ => some false | _ => none) | _ => none
  | .nilf, y => match P.underlying t with | some (.func _ _ _) => (match y with | .nilf => some true | .fn .. => some false | _ => none) | _ => none
  | x, .nilf => match P.underlying t with | some (.func _ _ _) => (match x with | .fn .. => some false | _ => none) | _ => none
  | _, _ => none
/-- Two operands, and what '==' says of them. -/
def binG (op : BinOp) (x y : AV) (e : Option Bool) : Option AV :=
  match op, x, y with
  | .shl, .int k a, .int _ b => shiftA .shl k a b
  | .shr, .int k a, .int _ b => shiftA .shr k a b
  | op, .int k a, .int k' b => if k = k' then intA op k a b else none
  | op, .str a, .str b => strA op a b
  | .eql, _, _ => e.map .bool
  | .neq, _, _ => e.map fun b => .bool (!b)
  | _, _, _ => none
def binA (P : Program) (op : BinOp) (t : TypeId) (x y : AV) : Option AV := binG op x y (eqA P t x y)
def unA (op : UnOp) (x : AV) : Option AV :=
  match op, x with
  | .neg, .int k n => some (.int k (k.wrap (0 - n)))
  | .not, .bool b => some (.bool !b)
  | _, _ => none

/-! ### slices -/
def asI : AV → Option Int
  | .int _ n => some n
  | _ => none
/-- A bound of a slice expression: a number from 0 to y. -/
def bnd (x : AV) (y : Nat) : Option Nat :=
  match x with
  | .int _ n => if 0 ≤ n ∧ n ≤ y then some n.toNat else none
  | _ => none
def bndD (x : Option AV) (d y : Nat) : Option Nat :=
  match x with
  | some v => bnd v y
  | none => some d
def sliceA (P : Program) (t : TypeId) (x : AV) (lo hi mx : Option AV) : Option AV :=
  match x with
  | .str s => if tIsStr P t = true ∧ mx.isNone = true then
      (bndD hi s.length s.length).bind fun h => (bndD lo 0 h).bind fun l => some (.str ((s.take h).drop l)) else none
  | .nils => if ((tElem P t).any fun e => (tSize P e).isSome) = true then
      (bndD mx 0 0).bind fun m => (bndD hi 0 m).bind fun h => (bndD lo 0 h).bind fun _ => if hi.isSome = true ∨ mx.isNone = true then some .nils else none else none
  | .lst sz es full => match tElem P t with
    | some e => if tSize P e = some sz then
        (bndD mx es.length es.length).bind fun m => (bndD hi es.length m).bind fun h => (bndD lo 0 h).bind fun l =>
          if hi.isSome = true ∨ mx.isNone = true then some (.lst sz ((es.take h).drop l) (if mx.isSome then decide (m = h) else (full && decide (h = es.length)))) else none
      else none
    | none => none
  | .arr id off len cap sz loose => match tElem P t with
    | some e => if tSize P e = some sz then
        (bndD mx cap cap).bind fun m => (bndD hi len m).bind fun h => (bndD lo 0 h).bind fun l =>
          if hi.isSome = true ∨ mx.isNone = true then
            (if m = l then some (.lst sz [] (mx.isSome || !loose)) else some (.arr id (off + l) (h - l) (m - l) sz (loose && mx.isNone)))
          else none
      else none
    | none => none
  | _ => none
def indexAddrA (P : Program) (t : TypeId) (x ix : AV) : Option AV :=
  match ix with
  | .int _ i =>
    match x with
    | .lst sz es _ => match tElem P t with
      | some e => if tSize P e = some sz ∧ 0 ≤ i ∧ i < es.length then some (.cptr (es.getD i.toNat [])) else none
      | none => none
    | .arr id off len _ sz _ => match tElem P t with
      | some e => if tSize P e = some sz ∧ 0 ≤ i ∧ i < len then some (.ptr id (off + i.toNat) 0) else none
      | none => none
    | .ptr id j o => match tArr P t with
      | some (n, e) => match tSize P e with
        | some sz => if 0 ≤ i ∧ i < n then some (.ptr id j (o + i.toNat * sz)) else none
        | none => none
      | none => none
    | .cptr c => match tArr P t with
      | some (n, e) => match tSize P e with
        | some sz => if 0 ≤ i ∧ i < n then some (.cptr (c.drop (i.toNat * sz))) else none
        | none => none
      | none => none
    | _ => none
  | _ => none
def indexA (P : Program) (t : TypeId) (x ix : AV) : Option AV :=
  match ix with
  | .int _ i =>
    match x with
    | .str s => if tIsStr P t = true ∧ 0 ≤ i ∧ i < s.length then some (.int .u8 (s.getD i.toNat 0).toNat) else none
    | .agg cs => match tArr P t with
      | some (n, e) => match tSize P e with
        | some sz => if 0 ≤ i ∧ i < n then readAt P e (cs.drop (i.toNat * sz)) else none
        | none => none
      | none => none
    | _ => none
  | _ => none
def fieldAddrA (P : Program) (t : TypeId) (x : AV) (f : Nat) : Option AV :=
  match tField P t f with
  | some (off, ft) => match tSize P ft with
    | some (_ + 1) => match x with
      | .ptr id i o => some (.ptr id i (o + off))
      | .cptr c => some (.cptr (c.drop off))
      | _ => none
    | _ => none
  | none => none
def fieldA (P : Program) (t : TypeId) (x : AV) (f : Nat) : Option AV :=
  match tField P t f, x with
  | some (off, ft), .agg cs => readAt P ft (cs.drop off)
  | _, _ => none

/-- The parts of a composite literal laid into its cells. 'place': where part i goes, and its size. -/
def fillA (place : Nat → Option (Nat × Nat)) (cells : List AV) : List (Nat × AV) → Option (List AV)
  | [] => some cells
  | (i, v) :: r =>
    match place i with
    | none => none
    | some (off, size) => if v.cells.length = size ∧ off + size ≤ cells.length ∧ v.cells.all AV.one = true then fillA place (setAt cells off v.cells) r else none
/-- Where the fields of a struct, the elements of an array lie. -/
def tPlaces (P : Program) (t : TypeId) : Option (List (Nat × Nat)) :=
  match P.underlying t with
  | some (.struct fs) => fs.toList.mapM fun f => (tSize P f.type).map fun s => (f.offset, s)
  | some (.array n e) => (tSize P e).map fun s => (List.range n).map fun i => (i * s, s)
  | _ => none
def buildA (P : Program) (t : TypeId) (parts : List (Nat × AV)) : Option AV :=
  match tZero P t, tPlaces P t with
  | some z, some pl => (fillA (fun i => pl[i]?) z.cells parts).map .agg
  | _, _ => none
/-- The elements of a slice literal. -/
def fillE (sz : Nat) (es : List (List AV)) : List (Nat × AV) → Option (List (List AV))
  | [] => some es
  | (i, v) :: r => if v.cells.length = sz ∧ i < es.length ∧ v.cells.all AV.one = true then fillE sz (es.set i v.cells) r else none

/-- The bytes of a string as cells. -/
def strEls (s : List UInt8) : List (List AV) := s.map fun b => [.int .u8 b.toNat]
/-- The string of a slice of bytes. -/
def elsStr : List (List AV) → Option (List UInt8)
  | [] => some []
  | [.int .u8 n] :: r => (elsStr r).map (UInt8.ofNat n.toNat :: ·)
  | _ :: _ => none

def minA : List AV → Option AV
  | [] => none
  | x :: r => r.foldlM (fun a b => match a, b with | .int k m, .int _ n => some (.int k (if n < m then n else m)) | _, _ => none) x
def maxA : List AV → Option AV
  | [] => none
  | x :: r => r.foldlM (fun a b => match a, b with | .int k m, .int _ n => some (.int k (if n > m then n else m)) | _, _ => none) x

/-! ### operations, by what they do to the heap -/
def evA (gl : Nat → List AV) (env : Nat → AV) : Operand → AV
  | .tmp t => env t
  | .const v => (zav v).getD .no
  | .global g => .cptr (gl g)
  | .func f => .fn f []

/-- Operations that do not look at the heap. -/
def opP (P : Program) (ρ : Operand → AV) (op : Op) : Option AV :=
  match op with
  | .move x | .assign x => some (ρ x)
  | .pick c a b => match ρ c with
    | .bool true => some (ρ a)
    | .bool false => some (ρ b)
    | _ => none
  | .build t ps => buildA P t (ps.toList.map fun (i, x) => (i, ρ x))
  | .nilCheck x => match ρ x with
    | .ptr id i o => some (.ptr id i o)
    | .cptr c => some (.cptr c)
    | .fn f c => some (.fn f c)
    | _ => none
  | .binOp op t x y _ => binA P op t (ρ x) (ρ y)
  | .unOp op _ x => unA op (ρ x)
  | .convert src dst x => match ρ x with
    | .int _ n => match tInt P dst with
      | some k => if (P.underlying src).isSome = true then some (.int k (k.wrap n)) else none
      | none => none
    | .str s => if tIsStr P dst = true ∧ (P.underlying src).isSome = true then some (.str s) else none
    | _ => none
  | .makeInterface t x => match P.underlying t with
    | some (.interface _) => none
    | some _ => some (.iface t (ρ x))
    | none => none
  | .makeFunc (.func f) first caps => if first.size = 0 then some (.fn f (caps.toList.map ρ)) else none
  | .slice t x lo hi mx => sliceA P t (ρ x) (lo.map ρ) (hi.map ρ) (mx.map ρ)
  | .fieldAddr t x f => fieldAddrA P t (ρ x) f
  | .field t x f => fieldA P t (ρ x) f
  | .indexAddr t x i => indexAddrA P t (ρ x) (ρ i)
  | .index t x i => indexA P t (ρ x) (ρ i)
  | .extract x i => match ρ x with
    | .tup vs => vs[i]?
    | _ => none
  | .call { callee := .builtin .len, args, argTypes } => match argTypes[0]?, args[0]? with
    | some t, some x => match ρ x with
      | .str s => if tIsStr P t = true then some (.int .i64 s.length) else none
      | .nils => if (tElem P t).isSome = true then some (.int .i64 0) else none
      | .lst _ es _ => if (tElem P t).isSome = true then some (.int .i64 es.length) else none
      | .arr _ _ len _ _ _ => if (tElem P t).isSome = true then some (.int .i64 len) else none
      | .nilm => if (tMap P t).isSome = true then some (.int .i64 0) else none
      | _ => none
    | _, _ => none
  | .call { callee := .builtin .min, args, .. } => minA (args.toList.map ρ)
  | .call { callee := .builtin .max, args, .. } => maxA (args.toList.map ρ)
  | _ => none

/-- The keys of maps that are served: scalars, and structs of scalars. -/
def keyA (P : Program) (t : TypeId) (k : AV) : Bool :=
  match k with
  | .agg cs => match tKinds P t with
    | some ks => fitL ks cs
    | none => false
  | k => (kindOf k).isSome && tKind1 P t == kindOf k
def keyEq : AV → AV → Option Bool
  | .agg a, .agg b => eqL a b
  | a, b => eq1 a b
/-- The entry at a key: its index and its element. -/
def findA (k : AV) : List (AV × AV × Nat) → Nat → Option (Option (Nat × AV))
  | [], _ => some none
  | (k', v, _) :: r, i => match keyEq k k' with
    | some true => some (some (i, v))
    | some false => findA k r (i + 1)
    | none => none

/-- Operations that read one object. -/
def opR (P : Program) (ρ : Operand → AV) (op : Op) (h : Hp) : Option AV :=
  match op with
  | .load t a => match ρ a with
    | .ptr id i o => match h id with
      | .row es _ => match es[i]? with
        | some e => readAt P t (e.drop o)
        | none => none
      | _ => none
    | .cptr c => readAt P t c
    | _ => none
  | .lookup t m k ok => match tMap P t with
    | some (kt, et) =>
      if keyA P kt (ρ k) = true then
        match ρ m with
        | .nilm => match tZero P et with
          | some z => some (if ok then .tup [z, .bool false] else z)
          | none => none
        | .map id => match h id with
          | .map es _ => match findA (ρ k) es 0 with
            | some (some (_, v)) => some (if ok then .tup [v, .bool true] else v)
            | some none => match tZero P et with
              | some z => some (if ok then .tup [z, .bool false] else z)
              | none => none
            | none => none
          | _ => none
        | _ => none
      else none
    | none => none
  | .call { callee := .builtin .len, args, argTypes } => match argTypes[0]?, args[0]? with
    | some t, some x => match ρ x with
      | .map id => match h id with
        | .map es _ => if (tMap P t).isSome = true then some (.int .i64 es.length) else none
        | _ => none
      | _ => none
    | _, _ => none
  | _ => none

/-- Bounds under which no append and no make comes near the model's limits. -/
abbrev lenLim : Nat := 2147483648
abbrev bytesLim : Nat := 1024

/-- Operations that make one new object (n: its number). -/
def opN (P : Program) (ρ : Operand → AV) (op : Op) (n : Nat) : Option (AV × AO) :=
  match op with
  | .alloc t => match tZero P t with
    | some z => some (.ptr n 0 0, .row [z.cells] false)
    | none => none
  | .box _ x => if (ρ x).cells.all AV.one = true then some (.ptr n 0 0, .row [(ρ x).cells] false) else none
  | .buildSlice t len ps => match tElem P t with
    | some e => match tSize P e, tZero P e with
      | some (sz + 1), some z => if z.cells.length = sz + 1 ∧ len * (sz + 1) ≤ 16777216 ∧ z.cells.all AV.one = true then
          (fillE (sz + 1) (List.replicate len z.cells) (ps.toList.map fun (i, x) => (i, ρ x))).map fun es => (.arr n 0 len len (sz + 1) false, .row es false) else none
      | _, _ => none
    | none => none
  | .makeMap t r => match r with
    | none => some (.map n, .map [] 0)
    | some x => match ρ x, tMap P t with
      | .int _ _, some _ => some (.map n, .map [] 0)
      | _, _ => none
  | .makeSlice t l c => match tElem P t with
    | some e => match tSize P e, tZero P e, tBytes P e, ρ l, ρ c with
      | some (sz + 1), some z, some by_, .int _ l, .int _ c =>
        if z.cells.length = sz + 1 ∧ z.cells.all AV.one = true ∧ 0 ≤ l ∧ l ≤ c ∧ c ≤ lenLim ∧ by_ ≤ bytesLim then some (.arr n 0 l.toNat c.toNat (sz + 1) false, .row (List.replicate c.toNat z.cells) false) else none
      | _, _, _, _, _ => none
    | none => none
  | _ => none

/-- A store. -/
def opS (P : Program) (ρ : Operand → AV) (op : Op) (h : Hp) : Option (Nat × AO) :=
  match op with
  | .store t a x => match ρ a with
    | .ptr id i o => match h id with
      | .row es false => match es[i]? with
        | some e => match writeAt P t e o (ρ x) with
          | some e' => some (id, .row (es.set i e') false)
          | none => none
        | none => none
      | _ => none
    | _ => none
  | _ => none

/-- The elements of a slice (or of a string, as bytes), and how large one is. -/
def elsOf (h : Hp) (sz : Nat) : AV → Option (List (List AV))
  | .nils => some []
  | .lst sz' es _ => if sz' = sz then some es else none
  | .arr id off len _ sz' _ => match h id with
    | .row es _ => if sz' = sz ∧ off + len ≤ es.length then some ((es.drop off).take len) else none
    | _ => none
  | .str s => if sz = 1 then some (strEls s) else none
  | _ => none
def lenA : AV → Nat
  | .lst _ es _ => es.length
  | .arr _ _ len _ _ _ => len
  | .str s => s.length
  | _ => 0
def notInt : TypeDesc → Bool
  | .int _ => false
  | _ => true
/-- append: the value, the writes, the next number. -/
def appendA (P : Program) (st xt : TypeId) (s x : AV) (n : Nat) (h : Hp) : Option (AV × List (Nat × AO) × Nat) :=
  match tElem P st, (P.underlying xt) with
  | some e, some xd => match tSize P e, tZero P e, tBytes P e with
    | some (sz + 1), some z, some by_ =>
      if z.cells.length = sz + 1 ∧ z.cells.all AV.one = true ∧ by_ ≤ bytesLim ∧ notInt xd = true then
        match elsOf h (sz + 1) x with
        | some [] => match s with
          | .nils | .lst .. | .arr .. => some (s, [], n)
          | _ => none
        | some new =>
          if lenA s + new.length ≤ lenLim then
            match s with
            | .nils => some (.arr n 0 new.length new.length (sz + 1) true, [(n, .row new false)], n + 1)
            | .lst sz' es true => if sz' = sz + 1 then some (.arr n 0 (es.length + new.length) (es.length + new.length) (sz + 1) true, [(n, .row (es ++ new) false)], n + 1) else none
            | .arr id off len cap sz' loose => match h id with
              | .row es fr =>
                if sz' = sz + 1 ∧ off + len ≤ es.length then
                  if len + new.length ≤ cap then
                    (if fr = false ∧ off + len + new.length ≤ es.length then
                      some (.arr id off (len + new.length) cap sz' loose, [(id, .row (es.take (off + len) ++ new ++ es.drop (off + len + new.length)) false)], n) else none)
                  else if loose then
                    (if fr = false ∧ off = 0 ∧ len = es.length then
                      some (.arr n 0 (len + new.length) (len + new.length) sz' true, [(n, .row (es ++ new) false), (id, .dead)], n + 1) else none)
                  else some (.arr n 0 (len + new.length) (len + new.length) sz' true, [(n, .row ((es.drop off).take len ++ new) false)], n + 1)
                else none
              | _ => none
            | _ => none
          else none
        | none => none
      else none
    | _, _, _ => none
  | _, _ => none

/-- m[k] = v. -/
def mapUpdA (P : Program) (t : TypeId) (m k v : AV) (h : Hp) : Option (Nat × AO) :=
  match tMap P t, m with
  | some (kt, _), .map id =>
    if keyA P kt k = true then
      match h id with
      | .map es clock => match findA k es 0 with
        | some (some (i, _)) => some (id, .map (es.modify i fun e => (k, v, e.2.2)) clock)
        | some none => some (id, .map (es ++ [(k, v, clock)]) (clock + 1))
        | none => none
      | _ => none
    else none
  | _, _ => none

/-! ### arguments of pure functions: own arrays are seen as they are now -/
def snapLf (f : AV → Option (AV × List Nat)) : List AV → Option (List AV × List Nat)
  | [] => some ([], [])
  | v :: r => match f v, snapLf f r with
    | some (v', a), some (r', b) => some (v' :: r', a ++ b)
    | _, _ => none
def snapEf (f : AV → Option (AV × List Nat)) : List (List AV) → Option (List (List AV) × List Nat)
  | [] => some ([], [])
  | e :: r => match snapLf f e, snapEf f r with
    | some (e', a), some (r', b) => some (e' :: r', a ++ b)
    | _, _ => none
def snap (h : Hp) : Nat → AV → Option (AV × List Nat)
  | 0, _ => none
  | d + 1, v => match v with
    | .bool b => some (.bool b, [])
    | .int k n => some (.int k n, [])
    | .str s => some (.str s, [])
    | .nilp => some (.nilp, [])
    | .nils => some (.nils, [])
    | .nilm => some (.nilm, [])
    | .nilf => some (.nilf, [])
    | .nili => some (.nili, [])
    | .lst sz es f => some (.lst sz es f, [])
    | .cptr c => some (.cptr c, [])
    | .arr id off len cap sz loose => match h id with
      | .row es _ => if off + len ≤ es.length then
          (snapEf (snap h d) ((es.drop off).take len)).map fun (es', ids) => (.lst sz es' (!loose && decide (cap = len)), id :: ids) else none
      | _ => none
    | .agg cs => (snapLf (snap h d) cs).map fun (cs', ids) => (.agg cs', ids)
    | .tup cs => (snapLf (snap h d) cs).map fun (cs', ids) => (.tup cs', ids)
    | .fn f cs => (snapLf (snap h d) cs).map fun (cs', ids) => (.fn f cs', ids)
    | .iface t v => (snap h d v).map fun (v', ids) => (.iface t v', ids)
    | .ptr .. => none
    | .map _ => none
    | .iter _ => none
abbrev snapL (h : Hp) (d : Nat) : List AV → Option (List AV × List Nat) := snapLf (snap h d)
abbrev snapE (h : Hp) (d : Nat) : List (List AV) → Option (List (List AV) × List Nat) := snapEf (snap h d)
/-- Results that hold no memory. -/
def flat1 : AV → Bool
  | .bool _ | .int _ _ | .str _ | .nilp | .nils | .nilm | .nilf | .nili => true
  | _ => false
def flatV : AV → Bool
  | .tup vs => vs.all flat1
  | .agg vs => vs.all flat1
  | v => flat1 v
/-- How deep arguments and results may be nested in own memory. -/
abbrev snapD : Nat := 12

def frz1 : AO → AO
  | .row es _ => .row es true
  | o => o
def freezeW (h : Hp) (ids : List Nat) : List (Nat × AO) := ids.map fun id => (id, frz1 (h id))

/-- A call of function f. -/
def callA (C : Ctx) (dr : Bool) (f : FuncId) (args : List AV) (n : Nat) (h : Hp) : Option (AV × List (Nat × AO) × Nat) :=
  match C.TP f with
  | some F => match snapL h snapD args with
    | some (args', ids) => match F args' with
      | some v => if ids = [] ∨ flatV v = true then some (v, [], n) else if dr then none else some (v, freezeW h ids, n)
      | none => none
    | none => none
  | none => C.TI f args n h

/-- One operation: its value, its writes, the next number, the next choice. -/
def opE (C : Ctx) (dr : Bool) (ρ : Operand → AV) (o : Oper) (n : Nat) (h : Hp) (ch : Nat) : Option (AV × List (Nat × AO) × Nat × Nat) :=
  match o.op with
  | .call { callee := .value f, args, .. } => match ρ f with
    | .fn g caps => (callA C dr g (args.toList.map ρ ++ caps) n h).map fun (v, ws, n') => (v, ws, n', ch)
    | _ => none
  | .call { callee := .builtin .append, args, argTypes } => match argTypes[0]?, argTypes[1]?, args[0]?, args[1]? with
    | some st, some xt, some s, some x => (appendA C.P st xt (ρ s) (ρ x) n h).map fun (v, ws, n') => (v, ws, n', ch)
    | _, _, _, _ => none
  | .store .. => (opS C.P ρ o.op h).map fun w => (.no, [w], n, ch)
  | .mapUpdate t m k v => (mapUpdA C.P t (ρ m) (ρ k) (ρ v) h).map fun w => (.no, [w], n, ch)
  | op => match opP C.P ρ op with
    | some v => some (v, [], n, ch)
    | none => match opR C.P ρ op h with
      | some v => some (v, [], n, ch)
      | none => match opN C.P ρ op n with
        | some (v, ob) => some (v, [(n, ob)], n + 1, ch)
        | none => none

/-! ### code -/
structure S where
  env : Nat → AV
  n : Nat
  h : Hp
  ch : Nat
  lg : List (Nat × AO)

def wantA (ops : Array Oper) (env : Nat → AV) (o : Oper) : Bool :=
  match o.guard with
  | none => true
  | some (j, want) => match (ops[j]?).bind (·.dst) with
    | some t => match env t with
      | .bool b => b == want
      | _ => false
    | none => false

def opsRun (C : Ctx) (dr : Bool) (ops : Array Oper) : List Oper → S → Option S
  | [], s => some s
  | o :: r, s =>
    if wantA ops s.env o then
      match opE C dr (evA C.gl s.env) o s.n s.h s.ch with
      | some (v, ws, n', ch') => opsRun C dr ops r ⟨putO s.env o.dst v, n', updW s.h ws, ch', s.lg ++ ws⟩
      | none => none
    else opsRun C dr ops r ⟨putO s.env o.dst .no, s.n, s.h, s.ch, s.lg⟩

/-! ### regions that draw their order -/
/-- The objects that a value leads to at once. -/
def ids1 : AV → List Nat
  | .ptr id _ _ => [id]
  | .arr id .. => [id]
  | .map id => [id]
  | .iter id => [id]
  | _ => []
/-- What one operation reads of the heap; none: whatever. -/
def rdE (C : Ctx) (ρ : Operand → AV) (op : Op) (h : Hp) : Option (List Nat) :=
  match op with
  | .call { callee := .value f, args, .. } => match ρ f with
    | .fn g caps => match C.TP g with
      | some _ => (snapL h snapD (args.toList.map ρ ++ caps)).map (·.2)
      | none => none
    | _ => some []
  | .call { callee := .builtin _, args, .. } => some (args.toList.flatMap fun x => ids1 (ρ x))
  | .store _ a _ => some (ids1 (ρ a))
  | .mapUpdate _ m _ _ => some (ids1 (ρ m))
  | .load _ a => some (ids1 (ρ a))
  | .lookup _ m _ _ => some (ids1 (ρ m))
  | _ => some []
/-- An operation as it ran in the text's order. -/
structure Rec where
  o : Oper
  i : Nat
  want : Bool
  v : AV
  ws : List (Nat × AO)
  b : Nat
  e : Nat
  rd : Option (List Nat)
def opsRec (C : Ctx) (ops : Array Oper) : List Oper → Nat → S → Option (List Rec × S)
  | [], _, s => some ([], s)
  | o :: r, i, s =>
    if wantA ops s.env o then
      match opE C true (evA C.gl s.env) o s.n s.h s.ch with
      | some (v, ws, n', ch') => if ch' = s.ch then
          match opsRec C ops r (i + 1) ⟨putO s.env o.dst v, n', updW s.h ws, s.ch, s.lg ++ ws⟩ with
          | some (l, s') => some (⟨o, i, true, v, ws, s.n, n', rdE C (evA C.gl s.env) o.op s.h⟩ :: l, s')
          | none => none
        else none
      | none => none
    else match opsRec C ops r (i + 1) ⟨putO s.env o.dst .no, s.n, s.h, s.ch, s.lg⟩ with
      | some (l, s') => some (⟨o, i, false, .no, [], s.n, s.n, some []⟩ :: l, s')
      | none => none
def preds (o : Oper) : List Nat := (o.after.toList.filter (Region.binds .any)).map (·.on)
def maskOf (ms : List Nat) (ps : List Nat) : Nat := ps.foldl (fun acc p => acc ||| 2 ^ p ||| ms.getD p 0) 0
/-- Which operations come before which: masks. -/
def masks : List Oper → List Nat → List Nat
  | [], ms => ms
  | o :: r, ms => masks r (ms ++ [maskOf ms (preds o)])
def ancB (ops : Array Oper) (i j : Nat) : Bool := ((masks ops.toList []).getD j 0).testBit i
def indH (r1 r2 : Rec) : Bool :=
  (r1.ws.all fun w => (match r2.rd with | some b => !b.contains w.1 | none => false) && !(r2.ws.any fun u => u.1 == w.1)) &&
  (r2.ws.all fun w => match r1.rd with | some b => !b.contains w.1 | none => false)
def pairsB (f : Rec → Rec → Bool) : List Rec → Bool
  | [] => true
  | r :: l => l.all (f r) && pairsB f l
def confB (ops : Array Oper) (rs : List Rec) : Bool := (rs.all fun r => r.ws.isEmpty) || pairsB (fun r1 r2 => ancB ops r1.i r2.i || indH r1 r2) rs
def regRun (C : Ctx) (ops : Array Oper) (s : S) : Option S :=
  match opsRec C ops ops.toList 0 s with
  | some (rs, s') => if confB ops rs then some s' else none
  | none => none

inductive Ex where
  | normal
  | exit (id : Nat)
  | ret
  deriving DecidableEq, Inhabited

/-- k rounds of a loop. -/
def iter (step : S → Option (Ex × S)) : Nat → S → Option (Ex × S)
  | 0, _ => none
  | k + 1, s => match step s with
    | some (.normal, s') => iter step k s'
    | r => r
theorem iter_mono (step : S → Option (Ex × S)) : ∀ k s r, iter step k s = some r → iter step (k + 1) s = some r := by
  intro k
  induction k with
  | zero => intro s r h; simp [iter] at h
  | succ k ih =>
    intro s r h
    rw [iter] at h ⊢
    split
    · rename_i s' hs
      rw [hs] at h
      exact ih _ _ h
    · rename_i hne
      split at h
      · rename_i s' hs
        exact absurd hs (hne s')
      · exact h
theorem iter_le (step : S → Option (Ex × S)) (k k' : Nat) (hk : k ≤ k') (s r) (h : iter step k s = some r) : iter step k' s = some r := by
  induction hk with
  | refl => exact h
  | step _ ih => exact iter_mono _ _ _ _ ih
open Classical in
/-- A loop: what it comes to after however many rounds; none where it does not end. -/
noncomputable def loopLim (step : S → Option (Ex × S)) (s : S) : Option (Ex × S) :=
  if h : ∃ k r, iter step k s = some r then some (h.choose_spec.choose) else none
theorem loopLim_of_iter {step : S → Option (Ex × S)} {k s r} (h : iter step k s = some r) : loopLim step s = some r := by
  have hex : ∃ k r, iter step k s = some r := ⟨k, r, h⟩
  unfold loopLim
  rw [dif_pos hex]
  have hc := hex.choose_spec.choose_spec
  have h1 := iter_le step _ (max k hex.choose) (Nat.le_max_left _ _) s r h
  have h2 := iter_le step _ (max k hex.choose) (Nat.le_max_right _ _) s _ hc
  rw [h1] at h2
  exact h2.symm
theorem iter_of_loopLim {step : S → Option (Ex × S)} {s r} (h : loopLim step s = some r) : ∃ k, iter step k s = some r := by
  unfold loopLim at h
  split at h
  · rename_i hex
    refine ⟨hex.choose, ?_⟩
    rw [hex.choose_spec.choose_spec, ← h]
  · cases h
/-- The equation of a loop. -/
theorem loopLim_eq (step : S → Option (Ex × S)) (s : S) : loopLim step s = match step s with
    | some (.normal, s') => loopLim step s'
    | r => r := by
  cases hl : loopLim step s with
  | some r =>
    obtain ⟨k, hk⟩ := iter_of_loopLim hl
    cases k with
    | zero => simp [iter] at hk
    | succ k =>
      rw [iter] at hk
      split at hk
      · rename_i s' hs
        exact (loopLim_of_iter hk).symm
      · exact hk.symm
  | none =>
    split
    · rename_i s' hs
      cases hl' : loopLim step s' with
      | none => rfl
      | some r =>
        obtain ⟨k, hk⟩ := iter_of_loopLim hl'
        have : iter step (k + 1) s = some r := by rw [iter, hs]; exact hk
        rw [loopLim_of_iter this] at hl
        cases hl
    · rename_i hne
      cases hs : step s with
      | none => rfl
      | some r =>
        have : iter step 1 s = some r := by
          rw [iter, hs]
          split
          · rename_i s' e
            exact absurd (hs.trans e) (hne s')
          · rfl
        rw [loopLim_of_iter this] at hl
        cases hl

noncomputable def run (C : Ctx) : Code → S → Option (Ex × S)
  | .skip, s => some (.normal, s)
  | .label _, s => some (.normal, s)
  | .region _ ops false, s => (opsRun C false ops ops.toList s).map fun s' => (.normal, s')
  | .region _ ops true, s => (regRun C ops s).map fun s' => (.normal, s')
  | .seq a b, s => match run C a s with
    | some (.normal, s') => run C b s'
    | r => r
  | .cond c x y, s => match evA C.gl s.env c with
    | .bool true => run C x s
    | .bool false => run C y s
    | _ => none
  | .block id c, s => match run C c s with
    | some (.exit i, s') => if i = id then some (.normal, s') else some (.exit i, s')
    | r => r
  | .loop c, s => loopLim (run C c) s
  | .exit id, s => some (.exit id, s)
  | .scope c, s => run C c s
  | .ret, s => some (.ret, s)
  | _, _ => none

/-- What a function hands back. -/
def resV (P : Program) (env : Nat → AV) (h : Hp) : ResultVar → Option AV
  | .tmp t => some (env t)
  | .cell a t => match env a with
    | .ptr id i o => match h id with
      | .row es _ => match es[i]? with
        | some e => readAt P t (e.drop o)
        | none => none
      | _ => none
    | _ => none
def resVs (P : Program) (env : Nat → AV) (h : Hp) : List ResultVar → Option (List AV)
  | [] => some []
  | r :: rs => match resV P env h r, resVs P env h rs with
    | some v, some vs => some (v :: vs)
    | _, _ => none
def packV : List AV → AV
  | [v] => v
  | vs => .tup vs
def initE (args : List AV) : Nat → AV := fun t => args.getD t .no

/-- A function whose answer is all that is kept of its run. -/
noncomputable def fnRun (C : Ctx) (c : Code) (rs : List ResultVar) (args : List AV) : Option AV :=
  match run C c ⟨initE args, 0, fun _ => .dead, 0, []⟩ with
  | some (.exit _, _) => none
  | some (_, s) => match resVs C.P s.env s.h rs with
    | some vs => (snap s.h snapD (packV vs)).map (·.1)
    | none => none
  | none => none

/-- A function that works on its caller's memory. -/
noncomputable def fnRunI (C : Ctx) (c : Code) (rs : List ResultVar) (args : List AV) (n : Nat) (h : Hp) : Option (AV × List (Nat × AO) × Nat) :=
  match run C c ⟨initE args, n, h, 0, []⟩ with
  | some (.exit _, _) => none
  | some (_, s) => match resVs C.P s.env s.h rs with
    | some vs => some (packV vs, s.lg, s.n)
    | none => none
  | none => none

/-- Constants that have an abstract value. -/
def goodX : Operand → Bool
  | .const v => (zav v).isSome
  | _ => true
def goodOp (o : Oper) : Bool := o.op.operands.all goodX && (match o.op with | .select .. => false | _ => true)

def regOK (nt : Nat) (ops : Array Oper) : Bool :=
  ops.all (fun o => goodOp o && (match o.dst with | some d => decide (d < nt) | none => true)) && (ops.toList.zipIdx.all fun (o, k) => (preds o).all fun p => decide (p < k))
def drawOK (ops : Array Oper) : Bool :=
  ops.toList.zipIdx.all fun (a, i) => ops.toList.zipIdx.all fun (b, j) => decide (j ≤ i) || ancB ops i j || a.apart ops b

/-- What a function's code must be like. -/
def codeOK (nt : Nat) : Code → Bool
  | .skip => true
  | .label _ => true
  | .region _ ops false => regOK nt ops
  | .region _ ops true => regOK nt ops && drawOK ops
  | .seq a b => codeOK nt a && codeOK nt b
  | .cond c x y => goodX c && codeOK nt x && codeOK nt y
  | .block _ c => codeOK nt c
  | .loop c => codeOK nt c
  | .exit _ => true
  | .scope c => codeOK nt c
  | .ret => true
  | _ => true

end Go.Pv
