/- A part of the proof that AccessRights returns true wherever its input is of bulk at most 1048576: what the functions that it reaches answer. No theorem of the claim stands here. -/
import Derived.Test.YtedapkgjicmhjaaGreatDoorPvSim
namespace Go.Pv
open Go
set_option linter.unusedSimpArgs false
set_option linter.unusedVariables false

@[simp] theorem X.ev_t (gl : Nat → List AV) (env : Nat → AV) (n : Nat) : (X.t n).ev gl env = env n := rfl
@[simp] theorem X.ev_k (gl : Nat → List AV) (env : Nat → AV) (v : AV) : (X.k v).ev gl env = v := rfl
@[simp] theorem X.ev_g (gl : Nat → List AV) (env : Nat → AV) (n : Nat) : (X.g n).ev gl env = .cptr (gl n) := rfl
@[simp] theorem putO_some (env : Nat → AV) (t : Nat) (v : AV) : putO env (some t) v = putE env t v := rfl
@[simp] theorem putO_none (env : Nat → AV) (v : AV) : putO env none v = env := rfl
@[simp] theorem putE_get (env : Nat → AV) (t : Nat) (v : AV) (j : Nat) : putE env t v j = if j = t then v else env j := rfl
@[simp] theorem upd_get (h : Hp) (t : Nat) (v : AO) (j : Nat) : upd h t v j = if j = t then v else h j := rfl
@[simp] theorem updW_nil (h : Hp) : updW h [] = h := rfl
@[simp] theorem updW_cons (h : Hp) (i : Nat) (o : AO) (r : List (Nat × AO)) : updW h ((i, o) :: r) = updW (upd h i o) r := rfl
@[simp] theorem v1_some' (n : Nat) (v : AV) : v1 n (some v) = some (v, [], n) := rfl
@[simp] theorem v1_none' (n : Nat) : v1 n none = none := rfl
@[simp] theorem w1_some' (n : Nat) (w : Nat × AO) : w1 n (some w) = some (.no, [w], n) := rfl
@[simp] theorem w1_none' (n : Nat) : w1 n none = none := rfl
@[simp] theorem wantC_none (env : Nat → AV) : wantC env none = true := rfl
@[simp] theorem mapX_nil (gl : Nat → List AV) (env : Nat → AV) : mapX gl env [] = [] := rfl
@[simp] theorem mapX_cons (gl : Nat → List AV) (env : Nat → AV) (x : X) (r : List X) : mapX gl env (x :: r) = x.ev gl env :: mapX gl env r := rfl
@[simp] theorem mapP_nil (gl : Nat → List AV) (env : Nat → AV) : mapP gl env [] = [] := rfl
@[simp] theorem mapP_cons (gl : Nat → List AV) (env : Nat → AV) (i : Nat) (x : X) (r : List (Nat × X)) : mapP gl env ((i, x) :: r) = (i, x.ev gl env) :: mapP gl env r := rfl

/-! ### regions -/
@[simp] theorem regC_nil (C : Ctx) (dr : Bool) (s : S) : regC C dr [] s = some s := rfl
theorem regC_cons (C : Ctx) (dr : Bool) (d : Option Nat) (i : I) (r : List O) (s : S) : regC C dr (⟨d, none, i⟩ :: r) s = match iE C dr s.env s.n s.h i with
    | some (v, ws, n') => if (dr && !ws.isEmpty) = true then none else regC C dr r ⟨putO s.env d v, n', updW s.h ws, s.ch, s.lg ++ ws⟩
    | none => none := rfl
/-- An operation that ran. -/
theorem regC_val {C : Ctx} {dr : Bool} {d : Option Nat} {i : I} {r : List O} {s : S} {v : AV} {n' : Nat} (h : iE C dr s.env s.n s.h i = some (v, [], n')) : regC C dr (⟨d, none, i⟩ :: r) s = regC C dr r ⟨putO s.env d v, n', s.h, s.ch, s.lg⟩ := by
  rw [regC_cons, h]
  simp
@[simp] theorem runC_skip (C : Ctx) (s : S) : runC C .skip s = some (.normal, s) := rfl
@[simp] theorem runC_ret (C : Ctx) (s : S) : runC C .ret s = some (.ret, s) := rfl
@[simp] theorem runC_exit (C : Ctx) (i : Nat) (s : S) : runC C (.exit i) s = some (.exit i, s) := rfl
theorem runC_seq (C : Ctx) (a b : CC) (s : S) : runC C (.seq a b) s = match runC C a s with
    | some (.normal, s') => runC C b s'
    | r => r := rfl
theorem runC_reg (C : Ctx) (dr : Bool) (l : List O) (s : S) : runC C (.reg dr l) s = match regC C dr l s with
    | some s' => some (.normal, s')
    | none => none := rfl
theorem runC_cond (C : Ctx) (c : X) (x y : CC) (s : S) : runC C (.cond c x y) s = match c.ev C.gl s.env with
    | .bool t => if t then runC C x s else runC C y s
    | _ => none := rfl
theorem runC_block (C : Ctx) (id : Nat) (c : CC) (s : S) : runC C (.block id c) s = match runC C c s with
    | some (.exit i, s') => if i = id then some (.normal, s') else some (.exit i, s')
    | r => r := rfl
theorem runC_loop (C : Ctx) (c : CC) (s : S) : runC C (.loop c) s = loopLim (runC C c) s := rfl

/-! ### operators -/
section
variable (q : EQ) (k : IntKind) (a b : Int) (x y : List UInt8) (p r : Bool)
@[simp] theorem bin_add : binC .add q (.int k a) (.int k b) = some (.int k (k.wrap (a + b))) := by simp [binC, binG, intA]
@[simp] theorem bin_sub : binC .sub q (.int k a) (.int k b) = some (.int k (k.wrap (a - b))) := by simp [binC, binG, intA]
@[simp] theorem bin_mul : binC .mul q (.int k a) (.int k b) = some (.int k (k.wrap (a * b))) := by simp [binC, binG, intA]
@[simp] theorem bin_eql : binC .eql q (.int k a) (.int k b) = some (.bool (decide (a = b))) := by simp [binC, binG, intA]
@[simp] theorem bin_neq : binC .neq q (.int k a) (.int k b) = some (.bool (!decide (a = b))) := by simp [binC, binG, intA]
@[simp] theorem bin_lss : binC .lss q (.int k a) (.int k b) = some (.bool (decide (a < b))) := by simp [binC, binG, intA]
@[simp] theorem bin_leq : binC .leq q (.int k a) (.int k b) = some (.bool (decide (a ≤ b))) := by simp [binC, binG, intA]
@[simp] theorem bin_gtr : binC .gtr q (.int k a) (.int k b) = some (.bool (decide (b < a))) := by simp [binC, binG, intA]
@[simp] theorem bin_geq : binC .geq q (.int k a) (.int k b) = some (.bool (decide (b ≤ a))) := by simp [binC, binG, intA]
@[simp] theorem bin_seql : binC .eql q (.str x) (.str y) = some (.bool (x == y)) := rfl
@[simp] theorem bin_sneq : binC .neq q (.str x) (.str y) = some (.bool (!(x == y))) := rfl
@[simp] theorem bin_slss : binC .lss q (.str x) (.str y) = some (.bool (Op.bytesLess x y)) := rfl
@[simp] theorem bin_beql : binC .eql .b (.bool p) (.bool r) = some (.bool (p == r)) := rfl
@[simp] theorem bin_bneq : binC .neq .b (.bool p) (.bool r) = some (.bool (!(p == r))) := rfl
@[simp] theorem un_not : unA .not (.bool p) = some (.bool !p) := rfl
end
end Go.Pv
