/- A part of the proof that AccessRights returns true wherever its input is of bulk at most 1048576: what the functions that it reaches answer. No theorem of the claim stands here. -/
import Derived.Test.YtedapkgjicmhjaaGreatDoorPvDef
namespace Go.Pv
set_option linter.unusedVariables false

inductive X where
  | t (n : Nat)
  | k (v : AV)
  | g (n : Nat)
  deriving Inhabited
def X.ev (gl : Nat → List AV) (env : Nat → AV) : X → AV
  | .t n => env n
  | .k v => v
  | .g n => .cptr (gl n)
def compX : Operand → Option X
  | .tmp t => some (.t t)
  | .const v => (zav v).map .k
  | .global g => some (.g g)
  | .func f => some (.k (.fn f []))

/-- How a value of a type lies in cells. -/
inductive RD where
  | a (n : Nat)
  | s
def rd : RD → List AV → Option AV
  | .a n, cells => if n ≤ cells.length then some (.agg (cells.take n)) else none
  | .s, cells => cells.head?
def compRD (P : Program) (t : TypeId) : Option RD :=
  match tIsAgg P t with
  | some true => (tSize P t).map .a
  | some false => some .s
  | none => none

inductive EQ where
  | b
  | p
  | s
  | m
  | f
  | a (ks : List KD)
  | no
def compEQ (P : Program) (t : TypeId) : EQ :=
  match P.underlying t with
  | some .bool => .b
  | some (.pointer _) => .p
  | some (.slice _) => .s
  | some (.map _ _) => .m
  | some (.func _ _ _) => .f
  | _ => match tKinds P t with
    | some ks => .a ks
    | none => .no
def nilP : AV → Option Bool
  | .nilp => some true
  | .cptr _ | .ptr .. => some false
  | _ => none
def nilS : AV → Option Bool
  | .nils => some true
  | .lst .. | .arr .. => some false
  | _ => none
def nilM : AV → Option Bool
  | .nilm => some true
  | .map _ => some false
  | _ => none
def nilF : AV → Option Bool
  | .nilf => some true
  | .fn .. => some false
  | _ => none
def eqN : Option Bool → Option Bool → Option Bool
  | some true, some b => some b
  | some false, some true => some false
  | _, _ => none
def eqC (q : EQ) (x y : AV) : Option Bool :=
  match q with
  | .b => match x, y with
    | .bool a, .bool b => some (a == b)
    | _, _ => none
  | .a ks => match x, y with
    | .agg a, .agg b => if fitL ks a = true ∧ fitL ks b = true then eqL a b else none
    | _, _ => none
  | .p => eqN (nilP x) (nilP y)
  | .s => eqN (nilS x) (nilS y)
  | .m => eqN (nilM x) (nilM y)
  | .f => eqN (nilF x) (nilF y)
  | .no => none
def binC (op : BinOp) (q : EQ) (x y : AV) : Option AV := binG op x y (eqC q x y)

inductive CQ where
  | int (k : IntKind)
  | str
def convC (q : CQ) (x : AV) : Option AV :=
  match q, x with
  | .int k, .int _ n => some (.int k (k.wrap n))
  | .str, .str s => some (.str s)
  | _, _ => none

inductive SQ where
  | str
  | el (sz : Nat)
def sliceC (q : SQ) (x : AV) (lo hi mx : Option AV) : Option AV :=
  match q, x with
  | .str, .str s => if mx.isNone = true then (bndD hi s.length s.length).bind fun h => (bndD lo 0 h).bind fun l => some (.str ((s.take h).drop l)) else none
  | .el _, .nils => (bndD mx 0 0).bind fun m => (bndD hi 0 m).bind fun h => (bndD lo 0 h).bind fun _ => if hi.isSome = true ∨ mx.isNone = true then some .nils else none
  | .el sz, .lst sz' es full => if sz = sz' then
      (bndD mx es.length es.length).bind fun m => (bndD hi es.length m).bind fun h => (bndD lo 0 h).bind fun l =>
        if hi.isSome = true ∨ mx.isNone = true then some (.lst sz' ((es.take h).drop l) (if mx.isSome then decide (m = h) else (full && decide (h = es.length)))) else none
    else none
  | .el sz, .arr id off len cap sz' loose => if sz = sz' then
      (bndD mx cap cap).bind fun m => (bndD hi len m).bind fun h => (bndD lo 0 h).bind fun l =>
        if hi.isSome = true ∨ mx.isNone = true then
          (if m = l then some (.lst sz' [] (mx.isSome || !loose)) else some (.arr id (off + l) (h - l) (m - l) sz' (loose && mx.isNone)))
        else none
    else none
  | _, _ => none

inductive IQ where
  | sl (sz : Nat)
  | ar (n sz : Nat)
def iaddrC (q : IQ) (x ix : AV) : Option AV :=
  match ix with
  | .int _ i =>
    match q, x with
    | .sl sz, .lst sz' es _ => if sz = sz' ∧ 0 ≤ i ∧ i < es.length then some (.cptr (es.getD i.toNat [])) else none
    | .sl sz, .arr id off len _ sz' _ => if sz = sz' ∧ 0 ≤ i ∧ i < len then some (.ptr id (off + i.toNat) 0) else none
    | .ar n sz, .ptr id j o => if 0 ≤ i ∧ i < n then some (.ptr id j (o + i.toNat * sz)) else none
    | .ar n sz, .cptr c => if 0 ≤ i ∧ i < n then some (.cptr (c.drop (i.toNat * sz))) else none
    | _, _ => none
  | _ => none
inductive XQ where
  | str
  | ar (n sz : Nat) (r : RD)
def indexC (q : XQ) (x ix : AV) : Option AV :=
  match ix with
  | .int _ i =>
    match q, x with
    | .str, .str s => if 0 ≤ i ∧ i < s.length then some (.int .u8 (s.getD i.toNat 0).toNat) else none
    | .ar n sz r, .agg cs => if 0 ≤ i ∧ i < n then rd r (cs.drop (i.toNat * sz)) else none
    | _, _ => none
  | _ => none
def faddrC (off : Nat) (x : AV) : Option AV :=
  match x with
  | .ptr id i o => some (.ptr id i (o + off))
  | .cptr c => some (.cptr (c.drop off))
  | _ => none
def fieldC (off : Nat) (r : RD) (x : AV) : Option AV :=
  match x with
  | .agg cs => rd r (cs.drop off)
  | _ => none
inductive LQ where
  | str
  | sl
  | mp
def lenC (q : LQ) (h : Hp) (x : AV) : Option AV :=
  match q, x with
  | .str, .str s => some (.int .i64 s.length)
  | .sl, .nils => some (.int .i64 0)
  | .sl, .lst _ es _ => some (.int .i64 es.length)
  | .sl, .arr _ _ len _ _ _ => some (.int .i64 len)
  | .mp, .nilm => some (.int .i64 0)
  | .mp, .map id => match h id with
    | .map es _ => some (.int .i64 es.length)
    | _ => none
  | _, _ => none
inductive KQ where
  | one (q : KD)
  | ag (ks : List KD)
def keyC (q : KQ) (k : AV) : Bool :=
  match q, k with
  | .ag ks, .agg cs => fitL ks cs
  | .one q, k => kindOf k == some q
  | _, _ => false
def loadC (r : RD) (h : Hp) (x : AV) : Option AV :=
  match x with
  | .ptr id i o => match h id with
    | .row es _ => match es[i]? with
      | some e => rd r (e.drop o)
      | none => none
    | _ => none
  | .cptr c => rd r c
  | _ => none
def lookupC (q : KQ) (z : AV) (ok : Bool) (h : Hp) (m k : AV) : Option AV :=
  if keyC q k = true then
    match m with
    | .nilm => some (if ok then .tup [z, .bool false] else z)
    | .map id => match h id with
      | .map es _ => match findA k es 0 with
        | some (some (_, v)) => some (if ok then .tup [v, .bool true] else v)
        | some none => some (if ok then .tup [z, .bool false] else z)
        | none => none
      | _ => none
    | _ => none
  else none
def storeC (sz : Nat) (h : Hp) (a x : AV) : Option (Nat × AO) :=
  match a with
  | .ptr id i o => match h id with
    | .row es false => match es[i]? with
      | some e => if sz = x.cells.length ∧ o + x.cells.length ≤ e.length ∧ x.cells.all AV.one = true then some (id, .row (es.set i (setAt e o x.cells)) false) else none
      | none => none
    | _ => none
  | _ => none
def appendC (sz : Nat) (s x : AV) (n : Nat) (h : Hp) : Option (AV × List (Nat × AO) × Nat) :=
  match elsOf h sz x with
  | some [] => match s with
    | .nils | .lst .. | .arr .. => some (s, [], n)
    | _ => none
  | some new =>
    if lenA s + new.length ≤ lenLim then
      match s with
      | .nils => some (.arr n 0 new.length new.length sz true, [(n, .row new false)], n + 1)
      | .lst sz' es true => if sz' = sz then some (.arr n 0 (es.length + new.length) (es.length + new.length) sz true, [(n, .row (es ++ new) false)], n + 1) else none
      | .arr id off len cap sz' loose => match h id with
        | .row es fr =>
          if sz' = sz ∧ off + len ≤ es.length then
            if len + new.length ≤ cap then
              (if fr = false ∧ off + len + new.length ≤ es.length then
                some (.arr id off (len + new.length) cap sz' loose, [(id, .row (es.take (off + len) ++ new ++ es.drop (off + len + new.length)) false)], n) else none)
            else if loose then
              (if fr = false ∧ off = 0 ∧ len = es.length then
                some (.arr n 0 (len + new.length) (len + new.length) sz' true, [(n, .row (es ++ new) false), (id, .dead)], n + 1) else none)
            else some (.arr n 0 (len + new.length) (len + new.length) sz' true, [(n, .row ((es.drop off).take len ++ new) false)], n + 1)
          else none
        | _ => none
      | _ => none
    else none
  | none => none
def mapUpdC (q : KQ) (h : Hp) (m k v : AV) : Option (Nat × AO) :=
  match m with
  | .map id =>
    if keyC q k = true then
      match h id with
      | .map es clock => match findA k es 0 with
        | some (some (i, _)) => some (id, .map (es.modify i fun e => (k, v, e.2.2)) clock)
        | some none => some (id, .map (es ++ [(k, v, clock)]) (clock + 1))
        | none => none
      | _ => none
    else none
  | _ => none
def nilckC (x : AV) : Option AV :=
  match x with
  | .ptr id i o => some (.ptr id i o)
  | .cptr c => some (.cptr c)
  | .fn f c => some (.fn f c)
  | _ => none

inductive I where
  | mv (x : X)
  | pick (c a b : X)
  | build (z : List AV) (pl : List (Nat × Nat)) (ps : List (Nat × X))
  | nilck (x : X)
  | bin (op : BinOp) (q : EQ) (x y : X)
  | un (op : UnOp) (x : X)
  | conv (q : CQ) (x : X)
  | mkI (t : TypeId) (x : X)
  | mkF (f : FuncId) (caps : List X)
  | slice (q : SQ) (x : X) (lo hi mx : Option X)
  | faddr (off : Nat) (x : X)
  | field (off : Nat) (r : RD) (x : X)
  | iaddr (q : IQ) (x i : X)
  | index (q : XQ) (x i : X)
  | ext (i : Nat) (x : X)
  | len (q : LQ) (x : X)
  | min (xs : List X)
  | max (xs : List X)
  | load (r : RD) (a : X)
  | lookup (q : KQ) (z : AV) (ok : Bool) (m k : X)
  | alloc (z : List AV)
  | box (x : X)
  | bslice (sz : Nat) (z : List AV) (len : Nat) (ps : List (Nat × X))
  | mkM (r : Option X)
  | mkS (sz : Nat) (z : List AV) (l c : X)
  | store (sz : Nat) (a x : X)
  | append (sz : Nat) (s x : X)
  | mapUpd (q : KQ) (m k v : X)
  | call (f : X) (args : List X)
  | callF (f : FuncId) (args : List X)

def mapP (gl : Nat → List AV) (env : Nat → AV) : List (Nat × X) → List (Nat × AV)
  | [] => []
  | (i, x) :: r => (i, x.ev gl env) :: mapP gl env r
def mapX (gl : Nat → List AV) (env : Nat → AV) : List X → List AV
  | [] => []
  | x :: r => x.ev gl env :: mapX gl env r
def v1 (n : Nat) (v : Option AV) : Option (AV × List (Nat × AO) × Nat) := match v with
  | some v => some (v, [], n)
  | none => none
def w1 (n : Nat) (v : Option (Nat × AO)) : Option (AV × List (Nat × AO) × Nat) := match v with
  | some w => some (.no, [w], n)
  | none => none

def iE (C : Ctx) (dr : Bool) (env : Nat → AV) (n : Nat) (h : Hp) : I → Option (AV × List (Nat × AO) × Nat)
  | .mv x => some (x.ev C.gl env, [], n)
  | .pick c a b => match c.ev C.gl env with
    | .bool t => some (if t then a.ev C.gl env else b.ev C.gl env, [], n)
    | _ => none
  | .build z pl ps => v1 n ((fillA (fun i => pl[i]?) z (mapP C.gl env ps)).map .agg)
  | .nilck x => v1 n (nilckC (x.ev C.gl env))
  | .bin op q x y => v1 n (binC op q (x.ev C.gl env) (y.ev C.gl env))
  | .un op x => v1 n (unA op (x.ev C.gl env))
  | .conv q x => v1 n (convC q (x.ev C.gl env))
  | .mkI t x => some (.iface t (x.ev C.gl env), [], n)
  | .mkF f caps => some (.fn f (mapX C.gl env caps), [], n)
  | .slice q x lo hi mx => v1 n (sliceC q (x.ev C.gl env) (lo.map (·.ev C.gl env)) (hi.map (·.ev C.gl env)) (mx.map (·.ev C.gl env)))
  | .faddr off x => v1 n (faddrC off (x.ev C.gl env))
  | .field off r x => v1 n (fieldC off r (x.ev C.gl env))
  | .iaddr q x i => v1 n (iaddrC q (x.ev C.gl env) (i.ev C.gl env))
  | .index q x i => v1 n (indexC q (x.ev C.gl env) (i.ev C.gl env))
  | .ext i x => match x.ev C.gl env with
    | .tup vs => v1 n vs[i]?
    | _ => none
  | .len q x => v1 n (lenC q h (x.ev C.gl env))
  | .min xs => v1 n (minA (mapX C.gl env xs))
  | .max xs => v1 n (maxA (mapX C.gl env xs))
  | .load r a => v1 n (loadC r h (a.ev C.gl env))
  | .lookup q z ok m k => v1 n (lookupC q z ok h (m.ev C.gl env) (k.ev C.gl env))
  | .alloc z => some (.ptr n 0 0, [(n, .row [z] false)], n + 1)
  | .box x => if (x.ev C.gl env).cells.all AV.one = true then some (.ptr n 0 0, [(n, .row [(x.ev C.gl env).cells] false)], n + 1) else none
  | .bslice sz z len ps => match fillE sz (List.replicate len z) (mapP C.gl env ps) with
    | some es => some (.arr n 0 len len sz false, [(n, .row es false)], n + 1)
    | none => none
  | .mkM r => match r.map (·.ev C.gl env) with
    | none => some (.map n, [(n, .map [] 0)], n + 1)
    | some (.int _ _) => some (.map n, [(n, .map [] 0)], n + 1)
    | _ => none
  | .mkS sz z l c => match l.ev C.gl env, c.ev C.gl env with
    | .int _ l, .int _ c => if 0 ≤ l ∧ l ≤ c ∧ c ≤ lenLim then some (.arr n 0 l.toNat c.toNat sz false, [(n, .row (List.replicate c.toNat z) false)], n + 1) else none
    | _, _ => none
  | .store sz a x => w1 n (storeC sz h (a.ev C.gl env) (x.ev C.gl env))
  | .append sz s x => appendC sz (s.ev C.gl env) (x.ev C.gl env) n h
  | .mapUpd q m k v => w1 n (mapUpdC q h (m.ev C.gl env) (k.ev C.gl env) (v.ev C.gl env))
  | .call f args => match f.ev C.gl env with
    | .fn g caps => callA C dr g (mapX C.gl env args ++ caps) n h
    | _ => none
  | .callF g args => callA C dr g (mapX C.gl env args) n h

/-- One operation of a region: its slot, its guard (a slot and what it must hold). -/
structure O where
  d : Option Nat
  g : Option (Nat × Bool)
  i : I
def wantC (env : Nat → AV) : Option (Nat × Bool) → Bool
  | none => true
  | some (t, want) => match env t with
    | .bool b => b == want
    | _ => false
def regC (C : Ctx) (dr : Bool) : List O → S → Option S
  | [], s => some s
  | o :: r, s =>
    if wantC s.env o.g then
      match iE C dr s.env s.n s.h o.i with
      | some (v, ws, n') => if (dr && !ws.isEmpty) = true then none else regC C dr r ⟨putO s.env o.d v, n', updW s.h ws, s.ch, s.lg ++ ws⟩
      | none => none
    else regC C dr r ⟨putO s.env o.d .no, s.n, s.h, s.ch, s.lg⟩

/-- A drawn region in which something is written: the ids written and read. -/
structure Lg where
  i : Nat
  ws : List Nat
  rd : Option (List Nat)
def rdI (C : Ctx) (env : Nat → AV) (h : Hp) : I → Option (List Nat)
  | .call f args => match f.ev C.gl env with
    | .fn g caps => match C.TP g with
      | some _ => (snapL h snapD (mapX C.gl env args ++ caps)).map (·.2)
      | none => none
    | _ => some []
  | .callF g args => match C.TP g with
    | some _ => (snapL h snapD (mapX C.gl env args)).map (·.2)
    | none => none
  | .append _ s x => some (ids1 (s.ev C.gl env) ++ ids1 (x.ev C.gl env))
  | .len _ x => some (ids1 (x.ev C.gl env))
  | .min xs => some ((mapX C.gl env xs).flatMap ids1)
  | .max xs => some ((mapX C.gl env xs).flatMap ids1)
  | .store _ a _ => some (ids1 (a.ev C.gl env))
  | .mapUpd _ m _ _ => some (ids1 (m.ev C.gl env))
  | .load _ a => some (ids1 (a.ev C.gl env))
  | .lookup _ _ _ m _ => some (ids1 (m.ev C.gl env))
  | _ => some []
def recC (C : Ctx) : List O → Nat → S → Option (List Lg × S)
  | [], _, s => some ([], s)
  | o :: r, i, s =>
    if wantC s.env o.g then
      match iE C true s.env s.n s.h o.i with
      | some (v, ws, n') => match recC C r (i + 1) ⟨putO s.env o.d v, n', updW s.h ws, s.ch, s.lg ++ ws⟩ with
        | some (l, s') => some (⟨i, ws.map (·.1), rdI C s.env s.h o.i⟩ :: l, s')
        | none => none
      | none => none
    else match recC C r (i + 1) ⟨putO s.env o.d .no, s.n, s.h, s.ch, s.lg⟩ with
      | some (l, s') => some (⟨i, [], some []⟩ :: l, s')
      | none => none
def indL (a b : Lg) : Bool :=
  (a.ws.all fun w => (match b.rd with | some l => !l.contains w | none => false) && !(b.ws.contains w)) &&
  (b.ws.all fun w => match a.rd with | some l => !l.contains w | none => false)
def pairsL (f : Lg → Lg → Bool) : List Lg → Bool
  | [] => true
  | r :: l => l.all (f r) && pairsL f l
def confL (ms : List Nat) (rs : List Lg) : Bool := pairsL (fun a b => (ms.getD b.i 0).testBit a.i || indL a b) rs

inductive CC where
  | skip
  | reg (dr : Bool) (l : List O)
  | regW (ms : List Nat) (l : List O)
  | seq (a b : CC)
  | cond (c : X) (x y : CC)
  | block (id : Nat) (c : CC)
  | loop (c : CC)
  | exit (id : Nat)
  | ret

noncomputable def runC (C : Ctx) : CC → S → Option (Ex × S)
  | .skip, s => some (.normal, s)
  | .reg dr l, s => match regC C dr l s with
    | some s' => some (.normal, s')
    | none => none
  | .regW ms l, s => match recC C l 0 s with
    | some (rs, s') => if confL ms rs then some (.normal, s') else none
    | none => none
  | .seq a b, s => match runC C a s with
    | some (.normal, s') => runC C b s'
    | r => r
  | .cond c x y, s => match c.ev C.gl s.env with
    | .bool t => if t then runC C x s else runC C y s
    | _ => none
  | .block id c, s => match runC C c s with
    | some (.exit i, s') => if i = id then some (.normal, s') else some (.exit i, s')
    | r => r
  | .loop c, s => loopLim (runC C c) s
  | .exit id, s => some (.exit id, s)
  | .ret, s => some (.ret, s)

/-! ### making code small -/
def compXs : List Operand → Option (List X)
  | [] => some []
  | o :: r => match compX o, compXs r with
    | some x, some l => some (x :: l)
    | _, _ => none
def compPs : List (Nat × Operand) → Option (List (Nat × X))
  | [] => some []
  | (i, o) :: r => match compX o, compPs r with
    | some x, some l => some ((i, x) :: l)
    | _, _ => none
def compO1 : Option Operand → Option (Option X)
  | none => some none
  | some o => (compX o).map some
def compKQ (P : Program) (t : TypeId) : Option KQ :=
  match tKinds P t with
  | some ks => some (.ag ks)
  | none => (tKind1 P t).map .one
def compI (P : Program) : Op → Option I
  | .move x | .assign x => (compX x).map .mv
  | .pick c a b => match compX c, compX a, compX b with
    | some c, some a, some b => some (.pick c a b)
    | _, _, _ => none
  | .build t ps => match tZero P t, tPlaces P t, compPs ps.toList with
    | some z, some pl, some l => some (.build z.cells pl l)
    | _, _, _ => none
  | .nilCheck x => (compX x).map .nilck
  | .binOp op t x y _ => match compX x, compX y with
    | some x, some y => some (.bin op (compEQ P t) x y)
    | _, _ => none
  | .unOp op _ x => (compX x).map (.un op)
  | .convert src dst x => match compX x with
    | some x => if (P.underlying src).isSome = true then (match tInt P dst with
      | some k => some (.conv (.int k) x)
      | none => if tIsStr P dst = true then some (.conv .str x) else none) else none
    | none => none
  | .makeInterface t x => match P.underlying t with
    | some (.interface _) => none
    | some _ => (compX x).map (.mkI t)
    | none => none
  | .makeFunc (.func f) first caps => if first.size = 0 then (compXs caps.toList).map (.mkF f) else none
  | .slice t x lo hi mx => match compX x, compO1 lo, compO1 hi, compO1 mx with
    | some x, some lo, some hi, some mx =>
      if tIsStr P t = true then some (.slice .str x lo hi mx) else
      match tElem P t with
      | some e => match tSize P e with
        | some sz => some (.slice (.el sz) x lo hi mx)
        | none => none
      | none => none
    | _, _, _, _ => none
  | .fieldAddr t x f => match tField P t f, compX x with
    | some (off, ft), some x => match tSize P ft with
      | some (_ + 1) => some (.faddr off x)
      | _ => none
    | _, _ => none
  | .field t x f => match tField P t f, compX x with
    | some (off, ft), some x => (compRD P ft).map fun r => .field off r x
    | _, _ => none
  | .indexAddr t x i => match compX x, compX i with
    | some x, some i => match tElem P t with
      | some e => (tSize P e).map fun sz => .iaddr (.sl sz) x i
      | none => match tArr P t with
        | some (n, e) => (tSize P e).map fun sz => .iaddr (.ar n sz) x i
        | none => none
    | _, _ => none
  | .index t x i => match compX x, compX i with
    | some x, some i => if tIsStr P t = true then some (.index .str x i) else
      match tArr P t with
      | some (n, e) => match tSize P e, compRD P e with
        | some sz, some r => some (.index (.ar n sz r) x i)
        | _, _ => none
      | none => none
    | _, _ => none
  | .extract x i => (compX x).map (.ext i)
  | .load t a => match compRD P t, compX a with
    | some r, some a => some (.load r a)
    | _, _ => none
  | .lookup t m k ok => match tMap P t, compX m, compX k with
    | some (kt, et), some m, some k => match compKQ P kt, tZero P et with
      | some q, some z => some (.lookup q z ok m k)
      | _, _ => none
    | _, _, _ => none
  | .alloc t => (tZero P t).map fun z => .alloc z.cells
  | .box _ x => (compX x).map .box
  | .buildSlice t len ps => match tElem P t, compPs ps.toList with
    | some e, some l => match tSize P e, tZero P e with
      | some (sz + 1), some z => if z.cells.length = sz + 1 ∧ len * (sz + 1) ≤ 16777216 ∧ z.cells.all AV.one = true then some (.bslice (sz + 1) z.cells len l) else none
      | _, _ => none
    | _, _ => none
  | .makeMap t r => match tMap P t, compO1 r with
    | some _, some r => some (.mkM r)
    | _, _ => none
  | .makeSlice t l c => match tElem P t, compX l, compX c with
    | some e, some l, some c => match tSize P e, tZero P e, tBytes P e with
      | some (sz + 1), some z, some by_ => if z.cells.length = sz + 1 ∧ z.cells.all AV.one = true ∧ by_ ≤ bytesLim then some (.mkS (sz + 1) z.cells l c) else none
      | _, _, _ => none
    | _, _, _ => none
  | .store t a x => match tSize P t, compX a, compX x with
    | some sz, some a, some x => some (.store sz a x)
    | _, _, _ => none
  | .mapUpdate t m k v => match tMap P t, compX m, compX k, compX v with
    | some (kt, _), some m, some k, some v => (compKQ P kt).map fun q => .mapUpd q m k v
    | _, _, _, _ => none
  | .call { callee := .value f, args, .. } => match f with
    | .func g => (compXs args.toList).map (.callF g)
    | f => match compX f, compXs args.toList with
      | some f, some l => some (.call f l)
      | _, _ => none
  | .call { callee := .builtin .append, args, argTypes } => match argTypes.toList, compXs args.toList with
    | [st, xt], some [s, x] => match tElem P st, (P.underlying xt) with
      | some e, some xd => match tSize P e, tZero P e, tBytes P e with
        | some (sz + 1), some z, some by_ => if z.cells.length = sz + 1 ∧ z.cells.all AV.one = true ∧ by_ ≤ bytesLim ∧ notInt xd = true then some (.append (sz + 1) s x) else none
        | _, _, _ => none
      | _, _ => none
    | _, _ => none
  | .call { callee := .builtin .len, args, argTypes } => match argTypes.toList, compXs args.toList with
    | [t], some [x] => if tIsStr P t = true then some (.len .str x) else if (tElem P t).isSome = true then some (.len .sl x) else if (tMap P t).isSome = true then some (.len .mp x) else none
    | _, _ => none
  | .call { callee := .builtin .min, args, .. } => (compXs args.toList).map .min
  | .call { callee := .builtin .max, args, .. } => (compXs args.toList).map .max
  | _ => none
/-- Operations that write no object and make none. -/
def tame (imp : FuncId → Bool) : I → Bool
  | .callF g _ => !imp g
  | .alloc _ | .box _ | .bslice .. | .mkM _ | .mkS .. | .store .. | .append .. | .mapUpd .. => false
  | _ => true
def compG (ops : Array Oper) : Option (Nat × Bool) → Option (Option (Nat × Bool))
  | none => some none
  | some (j, want) => match (ops[j]?).bind (·.dst) with
    | some t => some (some (t, want))
    | none => none
def compOp (P : Program) (ops : Array Oper) (o : Oper) : Option O :=
  match compI P o.op, compG ops o.guard with
  | some i, some g => some ⟨o.dst, g, i⟩
  | _, _ => none
def compOs (P : Program) (ops : Array Oper) : List Oper → Option (List O)
  | [] => some []
  | o :: r => match compOp P ops o, compOs P ops r with
    | some x, some l => some (x :: l)
    | _, _ => none
def comp (imp : FuncId → Bool) (P : Program) : Code → Option CC
  | .skip => some .skip
  | .label _ => some .skip
  | .region _ ops false => (compOs P ops ops.toList).map (.reg false)
  | .region _ ops true => (compOs P ops ops.toList).map fun l => if l.all (fun o => tame imp o.i) then .reg true l else .regW (masks ops.toList []) l
  | .seq a b => match comp imp P a, comp imp P b with
    | some a, some b => some (.seq a b)
    | _, _ => none
  | .cond c x y => match compX c, comp imp P x, comp imp P y with
    | some c, some x, some y => some (.cond c x y)
    | _, _, _ => none
  | .block id c => (comp imp P c).map (.block id)
  | .loop c => (comp imp P c).map .loop
  | .exit id => some (.exit id)
  | .scope c => comp imp P c
  | .ret => some .ret
  | _ => none
end Go.Pv
