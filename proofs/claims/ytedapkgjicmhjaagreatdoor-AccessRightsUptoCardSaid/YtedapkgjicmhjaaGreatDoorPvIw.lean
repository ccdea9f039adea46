/- A part of the proof that AccessRights returns true wherever its input is of bulk at most 1048576: what the functions that it reaches answer. No theorem of the claim stands here. -/
import Derived.Test.YtedapkgjicmhjaaGreatDoorPvWp
namespace Go.Pv
open Go
set_option linter.unusedSimpArgs false
set_option linter.unusedVariables false

section
variable {C : Ctx} {dr : Bool} {env : Env} {n : Nat} {h : Hp}
def pickA (c a b : AV) : Option AV := match c with
  | .bool t => some (if t then a else b)
  | _ => none
@[simp] theorem pickA_t {a b} : pickA (.bool true) a b = some a := rfl
@[simp] theorem pickA_f {a b} : pickA (.bool false) a b = some b := rfl
@[simp] theorem pickA_selt {t : Bool} {a b : AV} : pickA (.bool t) (sel t true a) b = pickA (.bool t) a b := by cases t <;> rfl
@[simp] theorem pickA_self {t : Bool} {a b : AV} : pickA (.bool t) a (sel t false b) = pickA (.bool t) a b := by cases t <;> rfl
@[simp] theorem pickA_and {t x : Bool} : pickA (.bool t) (.bool x) (.bool false) = some (.bool (t && x)) := by cases t <;> rfl
@[simp] theorem pickA_or {t x : Bool} : pickA (.bool t) (.bool true) (.bool x) = some (.bool (t || x)) := by cases t <;> rfl
def aggO : Option (List AV) → Option AV
  | some c => some (.agg c)
  | none => none
@[simp] theorem aggO_s {c} : aggO (some c) = some (.agg c) := rfl
def newC (n : Nat) : Option (List AV) → Option (AV × List (Nat × AO) × Nat)
  | some c => some (.ptr n 0 0, [(n, .row [c] false)], n + 1)
  | none => none
@[simp] theorem newC_s {n c} : newC n (some c) = some (.ptr n 0 0, [(n, .row [c] false)], n + 1) := rfl
def newS (n sz len : Nat) : Option (List (List AV)) → Option (AV × List (Nat × AO) × Nat)
  | some es => some (.arr n 0 len len sz false, [(n, .row es false)], n + 1)
  | none => none
@[simp] theorem newS_s {n sz len es} : newS n sz len (some es) = some (.arr n 0 len len sz false, [(n, .row es false)], n + 1) := rfl
@[simp] theorem iE_mv {x} : iE C dr env n h (.mv x) = some (x.ev C.gl env, [], n) := rfl
@[simp] theorem iE_pick {c a b} : iE C dr env n h (.pick c a b) = v1 n (pickA (c.ev C.gl env) (a.ev C.gl env) (b.ev C.gl env)) := by
  simp only [iE]; cases c.ev C.gl env <;> rfl
@[simp] theorem iE_build {z pl ps} : iE C dr env n h (.build z pl ps) = v1 n (aggO (fillA (fun i => pl[i]?) z (mapP C.gl env ps))) := by
  simp only [iE]; cases fillA (fun i => pl[i]?) z (mapP C.gl env ps) <;> rfl
@[simp] theorem iE_nilck {x} : iE C dr env n h (.nilck x) = v1 n (nilckC (x.ev C.gl env)) := rfl
@[simp] theorem iE_bin {op q x y} : iE C dr env n h (.bin op q x y) = v1 n (binC op q (x.ev C.gl env) (y.ev C.gl env)) := rfl
@[simp] theorem iE_un {op x} : iE C dr env n h (.un op x) = v1 n (unA op (x.ev C.gl env)) := rfl
@[simp] theorem iE_conv {q x} : iE C dr env n h (.conv q x) = v1 n (convC q (x.ev C.gl env)) := rfl
@[simp] theorem iE_mkI {t x} : iE C dr env n h (.mkI t x) = some (.iface t (x.ev C.gl env), [], n) := rfl
@[simp] theorem iE_mkF {f caps} : iE C dr env n h (.mkF f caps) = some (.fn f (mapX C.gl env caps), [], n) := rfl
def oX (gl : Nat → List AV) (env : Env) : Option X → Option AV
  | none => none
  | some x => some (x.ev gl env)
@[simp] theorem oX_n {gl} : oX gl env none = none := rfl
@[simp] theorem oX_s {gl x} : oX gl env (some x) = some (x.ev gl env) := rfl
theorem oX_map {gl o} : Option.map (fun x : X => x.ev gl env) o = oX gl env o := by cases o <;> rfl
@[simp] theorem iE_slice {q x lo hi mx} : iE C dr env n h (.slice q x lo hi mx) = v1 n (sliceC q (x.ev C.gl env) (oX C.gl env lo) (oX C.gl env hi) (oX C.gl env mx)) := by
  simp only [← oX_map]; rfl
@[simp] theorem iE_faddr {off x} : iE C dr env n h (.faddr off x) = v1 n (faddrC off (x.ev C.gl env)) := rfl
@[simp] theorem iE_field {off r x} : iE C dr env n h (.field off r x) = v1 n (fieldC off r (x.ev C.gl env)) := rfl
@[simp] theorem iE_iaddr {q x i} : iE C dr env n h (.iaddr q x i) = v1 n (iaddrC q (x.ev C.gl env) (i.ev C.gl env)) := rfl
@[simp] theorem iE_index {q x i} : iE C dr env n h (.index q x i) = v1 n (indexC q (x.ev C.gl env) (i.ev C.gl env)) := rfl
def extA (i : Nat) : AV → Option AV
  | .tup vs => vs[i]?
  | _ => none
@[simp] theorem extA_0 {a r} : extA 0 (.tup (a :: r)) = some a := rfl
@[simp] theorem extA_1 {a b r} : extA 1 (.tup (a :: b :: r)) = some b := rfl
@[simp] theorem extA_2 {a b c r} : extA 2 (.tup (a :: b :: c :: r)) = some c := rfl
@[simp] theorem extA_3 {a b c d r} : extA 3 (.tup (a :: b :: c :: d :: r)) = some d := rfl
@[simp] theorem iE_ext {i x} : iE C dr env n h (.ext i x) = v1 n (extA i (x.ev C.gl env)) := by
  simp only [iE]; cases x.ev C.gl env <;> rfl
@[simp] theorem iE_len {q x} : iE C dr env n h (.len q x) = v1 n (lenC q h (x.ev C.gl env)) := rfl
@[simp] theorem iE_min {xs} : iE C dr env n h (.min xs) = v1 n (minA (mapX C.gl env xs)) := rfl
@[simp] theorem iE_max {xs} : iE C dr env n h (.max xs) = v1 n (maxA (mapX C.gl env xs)) := rfl
@[simp] theorem iE_load {r a} : iE C dr env n h (.load r a) = v1 n (loadC r h (a.ev C.gl env)) := rfl
@[simp] theorem iE_lookup {q z ok m x} : iE C dr env n h (.lookup q z ok m x) = v1 n (lookupC q z ok h (m.ev C.gl env) (x.ev C.gl env)) := rfl
@[simp] theorem iE_alloc {z} : iE C dr env n h (.alloc z) = some (.ptr n 0 0, [(n, .row [z] false)], n + 1) := rfl
def boxA (x : AV) : Option (List AV) := if x.cells.all AV.one = true then some x.cells else none
@[simp] theorem iE_box {x} : iE C dr env n h (.box x) = newC n (boxA (x.ev C.gl env)) := by
  simp only [iE, boxA]; split <;> rfl
@[simp] theorem iE_bslice {sz z len ps} : iE C dr env n h (.bslice sz z len ps) = newS n sz len (fillE sz (List.replicate len z) (mapP C.gl env ps)) := by
  simp only [iE]; cases fillE sz (List.replicate len z) (mapP C.gl env ps) <;> rfl
def mkMA (n : Nat) : Option AV → Option (AV × List (Nat × AO) × Nat)
  | none => some (.map n, [(n, .map [] 0)], n + 1)
  | some (.int _ _) => some (.map n, [(n, .map [] 0)], n + 1)
  | _ => none
@[simp] theorem mkMA_n {n} : mkMA n none = some (.map n, [(n, .map [] 0)], n + 1) := rfl
@[simp] theorem mkMA_s {n k i} : mkMA n (some (.int k i)) = some (.map n, [(n, .map [] 0)], n + 1) := rfl
@[simp] theorem iE_mkM {r} : iE C dr env n h (.mkM r) = mkMA n (oX C.gl env r) := by
  simp only [iE, oX_map]; generalize oX C.gl env r = o; cases o <;> first | rfl | (rename_i v; cases v <;> rfl)
def mkSA (sz : Nat) (z : List AV) (n : Nat) (l c : AV) : Option (AV × List (Nat × AO) × Nat) := match l, c with
  | .int _ l, .int _ c => if 0 ≤ l ∧ l ≤ c ∧ c ≤ lenLim then some (.arr n 0 l.toNat c.toNat sz false, [(n, .row (List.replicate c.toNat z) false)], n + 1) else none
  | _, _ => none
@[simp] theorem mkSA_i {sz z n k l k' c} : mkSA sz z n (.int k l) (.int k' c) = if 0 ≤ l ∧ l ≤ c ∧ c ≤ lenLim then some (.arr n 0 l.toNat c.toNat sz false, [(n, .row (List.replicate c.toNat z) false)], n + 1) else none := rfl
@[simp] theorem iE_mkS {sz z l c} : iE C dr env n h (.mkS sz z l c) = mkSA sz z n (l.ev C.gl env) (c.ev C.gl env) := rfl
@[simp] theorem iE_store {sz a x} : iE C dr env n h (.store sz a x) = w1 n (storeC sz h (a.ev C.gl env) (x.ev C.gl env)) := rfl
@[simp] theorem iE_append {sz s x} : iE C dr env n h (.append sz s x) = appendC sz (s.ev C.gl env) (x.ev C.gl env) n h := rfl
@[simp] theorem iE_mapUpd {q m x v} : iE C dr env n h (.mapUpd q m x v) = w1 n (mapUpdC q h (m.ev C.gl env) (x.ev C.gl env) (v.ev C.gl env)) := rfl
def fnA (C : Ctx) (dr : Bool) (args : List AV) (n : Nat) (h : Hp) : AV → Option (AV × List (Nat × AO) × Nat)
  | .fn g c => callA C dr g (args ++ c) n h
  | _ => none
@[simp] theorem fnA_fn {args f c} : fnA C dr args n h (.fn f c) = callA C dr f (args ++ c) n h := rfl
@[simp] theorem iE_call {f args} : iE C dr env n h (.call f args) = fnA C dr (mapX C.gl env args) n h (f.ev C.gl env) := by
  simp only [iE]; cases f.ev C.gl env <;> rfl
@[simp] theorem iE_callF {f args} : iE C dr env n h (.callF f args) = callA C dr f (mapX C.gl env args) n h := rfl
end

/-! ### operators on values -/
@[simp] theorem lenC_str {h s} : lenC .str h (.str s) = some (.int .i64 s.length) := rfl
@[simp] theorem lenC_nils {h} : lenC .sl h .nils = some (.int .i64 0) := rfl
@[simp] theorem lenC_lst {h sz es f} : lenC .sl h (.lst sz es f) = some (.int .i64 es.length) := rfl
@[simp] theorem lenC_arr {h id off len cap sz l} : lenC .sl h (.arr id off len cap sz l) = some (.int .i64 len) := rfl
@[simp] theorem rd_s {x r} : rd .s (x :: r) = some x := rfl
@[simp] theorem rd_a {k cells} : rd (.a k) cells = if k ≤ cells.length then some (.agg (cells.take k)) else none := rfl
@[simp] theorem faddr_ptr {off id i o} : faddrC off (.ptr id i o) = some (.ptr id i (o + off)) := rfl
@[simp] theorem faddr_cptr {off c} : faddrC off (.cptr c) = some (.cptr (c.drop off)) := rfl
@[simp] theorem field_agg {off r cs} : fieldC off r (.agg cs) = rd r (cs.drop off) := rfl
@[simp] theorem load_cptr {r h c} : loadC r h (.cptr c) = rd r c := rfl
def rowC (r : RD) (i o : Nat) : AO → Option AV
  | .row es _ => match es[i]? with
    | some e => rd r (e.drop o)
    | none => none
  | _ => none
@[simp] theorem load_ptr {r h id i o} : loadC r h (.ptr id i o) = rowC r i o (h id) := by
  simp only [loadC, rowC]; cases h id <;> rfl
@[simp] theorem rowC_0 {r e es fr o} : rowC r 0 o (.row (e :: es) fr) = rd r (e.drop o) := rfl
theorem rowC_i {r : RD} {i o : Nat} {e : List AV} {es : List (List AV)} {fr : Bool} (he : es[i]? = some e) : rowC r i o (.row es fr) = rd r (e.drop o) := by simp [rowC, he]
@[simp] theorem loadC1_ptr {r h id i o} : loadC1 r h (.ptr id i o) = rowC r i o (h id) := by
  simp only [loadC1, rowC]; cases h id <;> rfl
def setR (sz : Nat) (id i o : Nat) (x : AV) : AO → Option (Nat × AO)
  | .row es false => match es[i]? with
    | some e => if sz = x.cells.length ∧ o + x.cells.length ≤ e.length ∧ x.cells.all AV.one = true then some (id, .row (es.set i (setAt e o x.cells)) false) else none
    | none => none
  | _ => none
@[simp] theorem store_ptr {sz h id i o x} : storeC sz h (.ptr id i o) x = setR sz id i o x (h id) := by
  simp only [storeC, setR]; cases h id <;> first | rfl | (rename_i es fr; cases fr <;> rfl)
@[simp] theorem setR_0 {sz id o x e es} : setR sz id 0 o x (.row (e :: es) false) = if sz = x.cells.length ∧ o + x.cells.length ≤ e.length ∧ x.cells.all AV.one = true then some (id, .row (setAt e o x.cells :: es) false) else none := by
  simp [setR]
theorem setR_i {sz id i o : Nat} {x : AV} {e : List AV} {es : List (List AV)} (he : es[i]? = some e) : setR sz id i o x (.row es false) = if sz = x.cells.length ∧ o + x.cells.length ≤ e.length ∧ x.cells.all AV.one = true then some (id, .row (es.set i (setAt e o x.cells)) false) else none := by
  simp [setR, he]
@[simp] theorem cells_agg {cs} : (AV.agg cs).cells = cs := rfl
@[simp] theorem cells_bool {b} : (AV.bool b).cells = [.bool b] := rfl
@[simp] theorem cells_int {k i} : (AV.int k i).cells = [.int k i] := rfl
@[simp] theorem cells_str {s} : (AV.str s).cells = [.str s] := rfl
@[simp] theorem cells_nils : (AV.nils).cells = [.nils] := rfl
@[simp] theorem cells_lst {a b c} : (AV.lst a b c).cells = [.lst a b c] := rfl
@[simp] theorem cells_arr {a b c d e f} : (AV.arr a b c d e f).cells = [.arr a b c d e f] := rfl
@[simp] theorem cells_ptr {a b c} : (AV.ptr a b c).cells = [.ptr a b c] := rfl
@[simp] theorem cells_cptr {a} : (AV.cptr a).cells = [.cptr a] := rfl
@[simp] theorem cells_map {a} : (AV.map a).cells = [.map a] := rfl
@[simp] theorem cells_nilm : (AV.nilm).cells = [.nilm] := rfl
@[simp] theorem cells_nilp : (AV.nilp).cells = [.nilp] := rfl
@[simp] theorem cells_nilf : (AV.nilf).cells = [.nilf] := rfl
@[simp] theorem cells_fn {f c} : (AV.fn f c).cells = [.fn f c] := rfl
@[simp] theorem one_bool {b} : (AV.bool b).one = true := rfl
@[simp] theorem one_int {k i} : (AV.int k i).one = true := rfl
@[simp] theorem one_str {s} : (AV.str s).one = true := rfl
@[simp] theorem one_nils : (AV.nils).one = true := rfl
@[simp] theorem one_lst {a b c} : (AV.lst a b c).one = true := rfl
@[simp] theorem one_arr {a b c d e f} : (AV.arr a b c d e f).one = true := rfl
@[simp] theorem one_ptr {a b c} : (AV.ptr a b c).one = true := rfl
@[simp] theorem one_cptr {a} : (AV.cptr a).one = true := rfl
@[simp] theorem one_map {a} : (AV.map a).one = true := rfl
@[simp] theorem one_nilm : (AV.nilm).one = true := rfl
@[simp] theorem one_nilp : (AV.nilp).one = true := rfl
@[simp] theorem one_nilf : (AV.nilf).one = true := rfl
@[simp] theorem one_fn {f c} : (AV.fn f c).one = true := rfl
@[simp] theorem setAt_0 {e vs} : setAt e 0 vs = vs ++ e.drop vs.length := by simp [setAt]
@[simp] theorem setAt_s {x e o vs} : setAt (x :: e) (o + 1) vs = x :: setAt e o vs := by simp [setAt, Nat.add_right_comm]
@[simp] theorem nilck_ptr {a b c} : nilckC (.ptr a b c) = some (.ptr a b c) := rfl
@[simp] theorem nilck_cptr {a} : nilckC (.cptr a) = some (.cptr a) := rfl
@[simp] theorem nilck_fn {a b} : nilckC (.fn a b) = some (.fn a b) := rfl
@[simp] theorem index_str {s k i} : indexC .str (.str s) (.int k i) = if 0 ≤ i ∧ i < s.length then some (.int .u8 (s.getD i.toNat 0).toNat) else none := rfl
theorem index_at {s : List UInt8} {k : IntKind} {i : Nat} (hi : i < s.length) : indexC .str (.str s) (.int k i) = some (.int .u8 s[i].toNat) := by
  simp [hi]
@[simp] theorem conv_i {k k' i} : convC (.int k) (.int k' i) = some (.int k (k.wrap i)) := rfl
@[simp] theorem conv_s {s} : convC .str (.str s) = some (.str s) := rfl
@[simp] theorem bnd_i {k i y} : bnd (.int k i) y = if 0 ≤ i ∧ i ≤ y then some i.toNat else none := rfl
@[simp] theorem bndD_n {d y} : bndD none d y = some d := rfl
@[simp] theorem bndD_s {v d y} : bndD (some v) d y = bnd v y := rfl

@[simp] theorem slice_str_hi {s k i} : sliceC .str (.str s) none (some (.int k i)) none = if 0 ≤ i ∧ i ≤ s.length then some (.str (s.take i.toNat)) else none := by
  simp only [sliceC, bndD_s, bndD_n, bnd_i]; by_cases h : 0 ≤ i ∧ i ≤ s.length <;> simp [h]
@[simp] theorem slice_str_lo {s k i} : sliceC .str (.str s) (some (.int k i)) none none = if 0 ≤ i ∧ i ≤ s.length then some (.str (s.drop i.toNat)) else none := by
  simp only [sliceC, bndD_s, bndD_n, bnd_i, Option.bind_some]; by_cases h : 0 ≤ i ∧ i ≤ s.length <;> simp [h]
@[simp] theorem slice_str_2 {s k i k' j} : sliceC .str (.str s) (some (.int k i)) (some (.int k' j)) none = if (0 ≤ j ∧ j ≤ s.length) ∧ 0 ≤ i ∧ i ≤ j then some (.str ((s.take j.toNat).drop i.toNat)) else none := by
  simp only [sliceC, bndD_s, bnd_i]
  by_cases h1 : 0 ≤ j ∧ j ≤ s.length
  · have e : ((j.toNat : Nat) : Int) = j := by omega
    simp only [h1, and_self, if_true, true_and, Option.isNone_none, Option.bind_some, e]
    split <;> rfl
  · simp [h1]
@[simp] theorem slice_arr_hi {id off len cap sz loose k j} : sliceC (.el sz) (.arr id off len cap sz loose) none (some (.int k j)) none = if 0 ≤ j ∧ j ≤ cap then (if cap = 0 then some (.lst sz [] (!loose)) else some (.arr id off j.toNat cap sz loose)) else none := by
  simp only [sliceC, bndD_s, bndD_n, bnd_i, Option.bind_some, if_true]
  by_cases h : 0 ≤ j ∧ j ≤ cap <;> simp [h]
theorem slice_arr_lo {id off len cap sz loose k i} (hc : len ≤ cap) : sliceC (.el sz) (.arr id off len cap sz loose) (some (.int k i)) none none = if 0 ≤ i ∧ i ≤ len then (if (cap : Int) = i then some (.lst sz [] (!loose)) else some (.arr id (off + i.toNat) (len - i.toNat) (cap - i.toNat) sz loose)) else none := by
  simp only [sliceC, bndD_s, bndD_n, bnd_i, if_true, Option.bind_some]
  by_cases h1 : 0 ≤ i ∧ i ≤ len
  · have : (cap = i.toNat) ↔ (cap : Int) = i := by omega
    simp [h1, this]
  · simp [h1]
@[simp] theorem iaddr_arr {id off len cap sz loose k i} : iaddrC (.sl sz) (.arr id off len cap sz loose) (.int k i) = if 0 ≤ i ∧ i < len then some (.ptr id (off + i.toNat) 0) else none := by simp [iaddrC]
@[simp] theorem iaddr_lst {sz es f k i} : iaddrC (.sl sz) (.lst sz es f) (.int k i) = if 0 ≤ i ∧ i < es.length then some (.cptr (es.getD i.toNat [])) else none := by simp [iaddrC]
@[simp] theorem iaddr_ptr {n sz id j o k i} : iaddrC (.ar n sz) (.ptr id j o) (.int k i) = if 0 ≤ i ∧ i < n then some (.ptr id j (o + i.toNat * sz)) else none := rfl
@[simp] theorem min_2 {k a b} : minA [.int k a, .int k b] = some (.int k (if b < a then b else a)) := rfl
@[simp] theorem max_2 {k a b} : maxA [.int k a, .int k b] = some (.int k (if b > a then b else a)) := rfl
@[simp] theorem ids1_ptr {a b c} : ids1 (.ptr a b c) = [a] := rfl
@[simp] theorem ids1_arr {a b c d e f} : ids1 (.arr a b c d e f) = [a] := rfl
@[simp] theorem ids1_map {a} : ids1 (.map a) = [a] := rfl
@[simp] theorem ids1_lst {a b c} : ids1 (.lst a b c) = [] := rfl
@[simp] theorem ids1_nils : ids1 .nils = [] := rfl
@[simp] theorem ids1_nilm : ids1 .nilm = [] := rfl
@[simp] theorem ids1_str {s} : ids1 (.str s) = [] := rfl
@[simp] theorem ids1_int {k i} : ids1 (.int k i) = [] := rfl
@[simp] theorem ids1_bool {k} : ids1 (.bool k) = [] := rfl
@[simp] theorem ids1_agg {k} : ids1 (.agg k) = [] := rfl
@[simp] theorem ids1_cptr {k} : ids1 (.cptr k) = [] := rfl
@[simp] theorem bin_sgeq {q x y} : binC .geq q (.str x) (.str y) = some (.bool (!Op.bytesLess x y)) := rfl
@[simp] theorem bin_sgtr {q x y} : binC .gtr q (.str x) (.str y) = some (.bool (!(Op.bytesLess x y || x == y))) := rfl
@[simp] theorem bin_sleq {q x y} : binC .leq q (.str x) (.str y) = some (.bool (Op.bytesLess x y || x == y)) := rfl
section
variable {C : Ctx} {env : Env} {h : Hp}
@[simp] theorem rdI_mv {x} : rdI C env h (.mv x) = some [] := rfl
@[simp] theorem rdI_pick {a b c} : rdI C env h (.pick a b c) = some [] := rfl
@[simp] theorem rdI_build {z pl ps} : rdI C env h (.build z pl ps) = some [] := rfl
@[simp] theorem rdI_nilck {x} : rdI C env h (.nilck x) = some [] := rfl
@[simp] theorem rdI_bin {op q x y} : rdI C env h (.bin op q x y) = some [] := rfl
@[simp] theorem rdI_un {op x} : rdI C env h (.un op x) = some [] := rfl
@[simp] theorem rdI_conv {q x} : rdI C env h (.conv q x) = some [] := rfl
@[simp] theorem rdI_mkI {t x} : rdI C env h (.mkI t x) = some [] := rfl
@[simp] theorem rdI_mkF {f l} : rdI C env h (.mkF f l) = some [] := rfl
@[simp] theorem rdI_slice {q x a b c} : rdI C env h (.slice q x a b c) = some [] := rfl
@[simp] theorem rdI_faddr {o x} : rdI C env h (.faddr o x) = some [] := rfl
@[simp] theorem rdI_field {o r x} : rdI C env h (.field o r x) = some [] := rfl
@[simp] theorem rdI_iaddr {q x i} : rdI C env h (.iaddr q x i) = some [] := rfl
@[simp] theorem rdI_index {q x i} : rdI C env h (.index q x i) = some [] := rfl
@[simp] theorem rdI_ext {i x} : rdI C env h (.ext i x) = some [] := rfl
@[simp] theorem rdI_alloc {z} : rdI C env h (.alloc z) = some [] := rfl
@[simp] theorem rdI_box {x} : rdI C env h (.box x) = some [] := rfl
@[simp] theorem rdI_bslice {sz z n ps} : rdI C env h (.bslice sz z n ps) = some [] := rfl
@[simp] theorem rdI_mkM {r} : rdI C env h (.mkM r) = some [] := rfl
@[simp] theorem rdI_mkS {sz z l c} : rdI C env h (.mkS sz z l c) = some [] := rfl
@[simp] theorem rdI_len {q x} : rdI C env h (.len q x) = some (ids1 (x.ev C.gl env)) := rfl
@[simp] theorem rdI_load {r a} : rdI C env h (.load r a) = some (ids1 (a.ev C.gl env)) := rfl
@[simp] theorem rdI_store {sz a x} : rdI C env h (.store sz a x) = some (ids1 (a.ev C.gl env)) := rfl
@[simp] theorem rdI_append {sz s x} : rdI C env h (.append sz s x) = some (ids1 (s.ev C.gl env) ++ ids1 (x.ev C.gl env)) := rfl
@[simp] theorem rdI_lookup {q z ok m k} : rdI C env h (.lookup q z ok m k) = some (ids1 (m.ev C.gl env)) := rfl
@[simp] theorem rdI_mapUpd {q m k v} : rdI C env h (.mapUpd q m k v) = some (ids1 (m.ev C.gl env)) := rfl
end
/-! ### numbers that fit -/
theorem wrap_in {i : Int} (h1 : -9223372036854775808 ≤ i) (h2 : i ≤ 9223372036854775807) : IntKind.i64.wrap i = i := by
  have e : IntKind.i64.wrap i = if i % 18446744073709551616 ≥ 9223372036854775808 then i % 18446744073709551616 - 18446744073709551616 else i % 18446744073709551616 := by
    simp [IntKind.wrap, IntKind.signed, IntKind.bits]
  rw [e]
  split <;> omega
theorem wrap_nat {i : Nat} (h2 : i ≤ 9223372036854775807) : IntKind.i64.wrap (i : Int) = i := wrap_in (by omega) (by omega)
theorem wrap_succ {i : Nat} (h2 : i < 9223372036854775807) : IntKind.i64.wrap ((i : Int) + 1) = ((i + 1 : Nat) : Int) := by rw [wrap_in (by omega) (by omega)]; omega
@[simp] theorem wrap_l0 : IntKind.i64.wrap 0 = 0 := wrap_in (by decide) (by decide)
@[simp] theorem wrap_l1 : IntKind.i64.wrap 1 = 1 := wrap_in (by decide) (by decide)
@[simp] theorem wrap_l2 : IntKind.i64.wrap 2 = 2 := wrap_in (by decide) (by decide)
@[simp] theorem wrap_l3 : IntKind.i64.wrap 3 = 3 := wrap_in (by decide) (by decide)
@[simp] theorem wrap_l4 : IntKind.i64.wrap 4 = 4 := wrap_in (by decide) (by decide)
@[simp] theorem wrap_l5 : IntKind.i64.wrap 5 = 5 := wrap_in (by decide) (by decide)
@[simp] theorem wrap_l6 : IntKind.i64.wrap 6 = 6 := wrap_in (by decide) (by decide)
@[simp] theorem wrap_l7 : IntKind.i64.wrap 7 = 7 := wrap_in (by decide) (by decide)
@[simp] theorem wrap_l8 : IntKind.i64.wrap 8 = 8 := wrap_in (by decide) (by decide)
@[simp] theorem wrap_l9 : IntKind.i64.wrap 9 = 9 := wrap_in (by decide) (by decide)
@[simp] theorem wrap_l10 : IntKind.i64.wrap 10 = 10 := wrap_in (by decide) (by decide)
@[simp] theorem wrap_l11 : IntKind.i64.wrap 11 = 11 := wrap_in (by decide) (by decide)
@[simp] theorem wrap_l12 : IntKind.i64.wrap 12 = 12 := wrap_in (by decide) (by decide)
@[simp] theorem wrap_l13 : IntKind.i64.wrap 13 = 13 := wrap_in (by decide) (by decide)
@[simp] theorem wrap_l14 : IntKind.i64.wrap 14 = 14 := wrap_in (by decide) (by decide)
@[simp] theorem wrap_l15 : IntKind.i64.wrap 15 = 15 := wrap_in (by decide) (by decide)
@[simp] theorem wrap_l16 : IntKind.i64.wrap 16 = 16 := wrap_in (by decide) (by decide)
@[simp] theorem wrap_l17 : IntKind.i64.wrap 17 = 17 := wrap_in (by decide) (by decide)
@[simp] theorem wrap_l18 : IntKind.i64.wrap 18 = 18 := wrap_in (by decide) (by decide)
@[simp] theorem wrap_l19 : IntKind.i64.wrap 19 = 19 := wrap_in (by decide) (by decide)
@[simp] theorem wrap_l20 : IntKind.i64.wrap 20 = 20 := wrap_in (by decide) (by decide)
@[simp] theorem wrap_l21 : IntKind.i64.wrap 21 = 21 := wrap_in (by decide) (by decide)
@[simp] theorem wrap_l22 : IntKind.i64.wrap 22 = 22 := wrap_in (by decide) (by decide)
@[simp] theorem wrap_l23 : IntKind.i64.wrap 23 = 23 := wrap_in (by decide) (by decide)
@[simp] theorem wrap_l24 : IntKind.i64.wrap 24 = 24 := wrap_in (by decide) (by decide)
@[simp] theorem wrap_l25 : IntKind.i64.wrap 25 = 25 := wrap_in (by decide) (by decide)
@[simp] theorem wrap_l26 : IntKind.i64.wrap 26 = 26 := wrap_in (by decide) (by decide)
@[simp] theorem wrap_l27 : IntKind.i64.wrap 27 = 27 := wrap_in (by decide) (by decide)
@[simp] theorem wrap_l28 : IntKind.i64.wrap 28 = 28 := wrap_in (by decide) (by decide)
@[simp] theorem wrap_l29 : IntKind.i64.wrap 29 = 29 := wrap_in (by decide) (by decide)
@[simp] theorem wrap_l30 : IntKind.i64.wrap 30 = 30 := wrap_in (by decide) (by decide)
@[simp] theorem wrap_l31 : IntKind.i64.wrap 31 = 31 := wrap_in (by decide) (by decide)
@[simp] theorem wrap_l32 : IntKind.i64.wrap 32 = 32 := wrap_in (by decide) (by decide)
@[simp] theorem wrap_l33 : IntKind.i64.wrap 33 = 33 := wrap_in (by decide) (by decide)
@[simp] theorem wrap_l40 : IntKind.i64.wrap 40 = 40 := wrap_in (by decide) (by decide)
@[simp] theorem wrap_l48 : IntKind.i64.wrap 48 = 48 := wrap_in (by decide) (by decide)
@[simp] theorem wrap_l50 : IntKind.i64.wrap 50 = 50 := wrap_in (by decide) (by decide)
@[simp] theorem wrap_l57 : IntKind.i64.wrap 57 = 57 := wrap_in (by decide) (by decide)
@[simp] theorem wrap_l60 : IntKind.i64.wrap 60 = 60 := wrap_in (by decide) (by decide)
@[simp] theorem wrap_l64 : IntKind.i64.wrap 64 = 64 := wrap_in (by decide) (by decide)
@[simp] theorem wrap_l65 : IntKind.i64.wrap 65 = 65 := wrap_in (by decide) (by decide)
@[simp] theorem wrap_l90 : IntKind.i64.wrap 90 = 90 := wrap_in (by decide) (by decide)
@[simp] theorem wrap_l97 : IntKind.i64.wrap 97 = 97 := wrap_in (by decide) (by decide)
@[simp] theorem wrap_l100 : IntKind.i64.wrap 100 = 100 := wrap_in (by decide) (by decide)
@[simp] theorem wrap_l122 : IntKind.i64.wrap 122 = 122 := wrap_in (by decide) (by decide)
@[simp] theorem wrap_l126 : IntKind.i64.wrap 126 = 126 := wrap_in (by decide) (by decide)
@[simp] theorem wrap_l128 : IntKind.i64.wrap 128 = 128 := wrap_in (by decide) (by decide)
@[simp] theorem wrap_l255 : IntKind.i64.wrap 255 = 255 := wrap_in (by decide) (by decide)
@[simp] theorem wrap_l256 : IntKind.i64.wrap 256 = 256 := wrap_in (by decide) (by decide)
@[simp] theorem wrap_m1 : IntKind.i64.wrap (-1) = -1 := wrap_in (by decide) (by decide)
@[simp] theorem wrap_m2 : IntKind.i64.wrap (-2) = -2 := wrap_in (by decide) (by decide)
@[simp] theorem wrap_m3 : IntKind.i64.wrap (-3) = -3 := wrap_in (by decide) (by decide)
end Go.Pv
