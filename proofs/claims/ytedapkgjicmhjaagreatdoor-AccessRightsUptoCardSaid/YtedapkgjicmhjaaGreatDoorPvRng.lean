/- A part of the proof that AccessRights returns true wherever its input is of bulk at most 1048576: what the functions that it reaches answer. No theorem of the claim stands here. -/
import Derived.Test.YtedapkgjicmhjaaGreatDoorPvTab
namespace Go.Pv
open Go
set_option linter.unusedSimpArgs false
set_option linter.unusedVariables false

inductive HO where
  | o (x : O)
  | rng (d : Option Nat) (x : X)
  | nxt (d : Option Nat) (x : X)
  | ent (d : Option Nat) (x : X)
inductive HC where
  | cc (c : CC)
  | rg (l : List HO)
  | seq (a b : HC)
  | cond (x : X) (a b : HC)
  | loop (a : HC)
  | block (id : Nat) (a : HC)
def Hr (C : Ctx) : List HO → Env → Nat → Hp → (Env → Nat → Hp → Prop) → Prop
  | [], env, n, h, Q => Q env n h
  | .o x :: r, env, n, h, Q => Rg C false [x] env n h fun env n h => Hr C r env n h Q
  | .rng d x :: r, env, n, h, Q => ∃ id es clock, x.ev C.gl env = .map id ∧ h id = .map es clock ∧ Hr C r (putO env d (.iter n)) (n + 1) (upd h n (.iter (some id) clock [] clock)) Q
  | .nxt d x :: r, env, n, h, Q => ∃ id m since seen es, x.ev C.gl env = .iter id ∧ h id = .iter (some m) since seen since ∧ h m = .map es since ∧ (∀ e ∈ es, e.2.2 < since) ∧
      ((∀ e ∈ es, e.2.2 ∈ seen) → Hr C r (putO env d (.tup [.bool false])) n h Q) ∧
      (∀ e ∈ es, e.2.2 ∉ seen → Hr C r (putO env d (.tup [.bool true, e.1, e.2.1])) n (upd h id (.iter (some m) since (seen ++ [e.2.2]) since)) Q)
  | .ent d x :: r, env, n, h, Q => ∃ id m since seen e es, x.ev C.gl env = .iter id ∧ h id = .iter (some m) since (seen ++ [e.2.2]) since ∧ h m = .map es since ∧ e ∈ es ∧ (es.map (·.2.2)).Nodup ∧ Hr C r (putO env d (.tup [e.1, e.2.1])) n h Q
def Hw (C : Ctx) : HC → Env → Nat → Hp → (Ex → Env → Nat → Hp → Prop) → Prop
  | .cc c, env, n, h, Q => Wp C c env n h Q
  | .rg l, env, n, h, Q => Hr C l env n h (Q .normal)
  | .seq a b, env, n, h, Q => Hw C a env n h (thenQ (fun env n h => Hw C b env n h Q) Q)
  | .cond x a b, env, n, h, Q => condW (x.ev C.gl env) (Hw C a env n h Q) (Hw C b env n h Q)
  | .loop a, env, n, h, Q => ∃ (I : Nat → Env → Nat → Hp → Prop) (k : Nat), I k env n h ∧ ∀ k env n h, I k env n h → Hw C a env n h (thenQ (fun env n h => ∃ k', k' < k ∧ I k' env n h) Q)
  | .block id a, env, n, h, Q => Hw C a env n h (blockQ id Q)

/-! ### from the text -/
def compHO (P : Program) (ops : Array Oper) (o : Oper) : Option HO :=
  match o.guard, o.op with
  | none, .range t x => match P.underlying t, compX x with
    | some (.map _ _), some x => some (.rng o.dst x)
    | _, _ => none
  | none, .next x false => (compX x).map (.nxt o.dst)
  | none, .entry x => (compX x).map (.ent o.dst)
  | _, _ => (compOp P ops o).map .o
def compHOs (P : Program) (ops : Array Oper) : List Oper → Option (List HO)
  | [] => some []
  | o :: r => match compHO P ops o, compHOs P ops r with
    | some x, some l => some (x :: l)
    | _, _ => none
def orCC (a : Option CC) (b : Option HC) : Option HC := match a with
  | some c => some (.cc c)
  | none => b
def compH (imp : FuncId → Bool) (P : Program) : Code → Option HC
  | .region id ops false => orCC (comp imp P (.region id ops false)) ((compHOs P ops ops.toList).map .rg)
  | .seq a b => orCC (comp imp P (.seq a b)) (match compH imp P a, compH imp P b with
    | some a, some b => some (.seq a b)
    | _, _ => none)
  | .cond c x y => orCC (comp imp P (.cond c x y)) (match compX c, compH imp P x, compH imp P y with
    | some c, some x, some y => some (.cond c x y)
    | _, _, _ => none)
  | .block id c => orCC (comp imp P (.block id c)) ((compH imp P c).map (.block id))
  | .loop c => orCC (comp imp P (.loop c)) ((compH imp P c).map .loop)
  | .scope c => compH imp P c
  | c => (comp imp P c).map .cc

theorem Rg1_ok {C : Ctx} {ops : Array Oper} {o : Oper} {x : O} (hc : compOp C.P ops o = some x) {s : S} {Q : Env → Nat → Hp → Prop} (h : Rg C false [x] s.env s.n s.h Q) {l : List Oper} {R : S → Prop}
    (hr : ∀ s', Q s'.env s'.n s'.h → opsSim C ops l s' R) : opsSim C ops (o :: l) s R := by
  obtain ⟨k1, k2, k3⟩ := compOp_ok hc
  obtain ⟨s', h1, h2⟩ := h
  simp only [regC] at h1
  simp only [opsSim]
  rw [← wantC_ok k2]
  split at h1
  · rename_i hw
    rw [if_pos hw]
    split at h1
    · rename_i v ws n' he
      simp only [Bool.false_and, Bool.false_eq_true, if_false, Option.some.injEq] at h1
      subst h1
      exact .inl ⟨v, ws, n', s.ch, compI_ok o k1 he, hr _ (by rw [← k3]; exact h2)⟩
    · cases h1
  · rename_i hw
    rw [if_neg hw]
    simp only [Option.some.injEq] at h1
    subst h1
    exact hr _ (by rw [← k3]; exact h2)
theorem Hr_ok {C : Ctx} {ops : Array Oper} {R : S → Prop} : ∀ {l : List Oper} {l' : List HO}, compHOs C.P ops l = some l' → ∀ {s : S} {Q : Env → Nat → Hp → Prop}, Hr C l' s.env s.n s.h Q → (∀ s', Q s'.env s'.n s'.h → R s') → opsSim C ops l s R := by
  intro l
  induction l with
  | nil => intro l' h s Q hr hQ; simp only [compHOs] at h; cases h; exact hQ _ hr
  | cons o r ih =>
    intro l' h s Q hr hQ
    simp only [compHOs] at h
    split at h
    · rename_i x l1 h1 h2
      cases h
      have plain : (compOp C.P ops o).map HO.o = some x → opsSim C ops (o :: r) s R := by
        intro hh
        rw [Option.map_eq_some_iff] at hh
        obtain ⟨y, hy, rfl⟩ := hh
        exact Rg1_ok hy hr fun s' hs => ih h2 hs hQ
      unfold compHO at h1
      split at h1
      · rename_i t x0 hg ho
        split at h1
        · rename_i kt et x1 ht hx
          cases h1
          obtain ⟨id, es, clock, q1, q2, q3⟩ := hr
          simp only [opsSim, wantA, hg, if_true]
          exact .inr (.inl ⟨t, x0, kt, et, id, es, clock, ho, ht, by rw [compX_ev hx]; exact q1, q2, ih h2 q3 hQ⟩)
        · cases h1
      · rename_i x0 hg ho
        rw [Option.map_eq_some_iff] at h1
        obtain ⟨y, hy, rfl⟩ := h1
        obtain ⟨id, m, since, seen, es, q1, q2, q3, q4, q5, q6⟩ := hr
        simp only [opsSim, wantA, hg, if_true]
        exact .inr (.inr (.inl ⟨x0, id, m, since, seen, es, ho, by rw [compX_ev hy]; exact q1, q2, q3, q4, fun p => ih h2 (q5 p) hQ, fun e he hn => ih h2 (q6 e he hn) hQ⟩))
      · rename_i x0 hg ho
        rw [Option.map_eq_some_iff] at h1
        obtain ⟨y, hy, rfl⟩ := h1
        obtain ⟨id, m, since, seen, e, es, q1, q2, q3, q4, q5, q6⟩ := hr
        simp only [opsSim, wantA, hg, if_true]
        exact .inr (.inr (.inr ⟨x0, id, m, since, seen, e, es, ho, by rw [compX_ev hy]; exact q1, q2, q3, q4, q5, ih h2 q6 hQ⟩))
      · exact plain h1
    · cases h

theorem Hw_ok {C : Ctx} (hT : TabOK C) (hm : C.P.follows .mixedOrders = true) {imp : FuncId → Bool} {nt : Nat} : ∀ (c : Code) (hc : HC), codeOK nt c = true → compH imp C.P c = some hc → ∀ (s : S) (Q : Ex → Env → Nat → Hp → Prop), Hw C hc s.env s.n s.h Q → Sim C nt c s fun e s' => Q e s'.env s'.n s'.h := by
  have base : ∀ (c : Code) (cc : CC), codeOK nt c = true → comp imp C.P c = some cc → ∀ (s : S) (Q : Ex → Env → Nat → Hp → Prop), Wp C cc s.env s.n s.h Q → Sim C nt c s fun e s' => Q e s'.env s'.n s'.h := by
    intro c cc hok hc s Q hw
    obtain ⟨e, s', h1, h2⟩ := hw.at
    exact .of_runC hT hm hok hc h1 h2
  have bmap : ∀ (c : Code) (hc : HC), codeOK nt c = true → (comp imp C.P c).map HC.cc = some hc → ∀ (s : S) (Q : Ex → Env → Nat → Hp → Prop), Hw C hc s.env s.n s.h Q → Sim C nt c s fun e s' => Q e s'.env s'.n s'.h := by
    intro c hc hok h s Q hw
    rw [Option.map_eq_some_iff] at h
    obtain ⟨cc, h1, rfl⟩ := h
    exact base c cc hok h1 s Q hw
  have borr : ∀ (c : Code) (hc : HC) (b : Option HC), codeOK nt c = true → orCC (comp imp C.P c) b = some hc → (∀ (s : S) (Q : Ex → Env → Nat → Hp → Prop), b = some hc → Hw C hc s.env s.n s.h Q → Sim C nt c s fun e s' => Q e s'.env s'.n s'.h) →
      ∀ (s : S) (Q : Ex → Env → Nat → Hp → Prop), Hw C hc s.env s.n s.h Q → Sim C nt c s fun e s' => Q e s'.env s'.n s'.h := by
    intro c hc b hok h hb s Q hw
    unfold orCC at h
    split at h
    · rename_i cc h1; cases h; exact base c cc hok h1 s Q hw
    · exact hb s Q h hw
  intro c
  induction c with
  | region id ops dr =>
    intro hc hok h s Q hw
    cases dr with
    | true => exact bmap _ _ hok h s Q hw
    | false =>
      refine borr _ _ _ hok h (fun s Q h hw => ?_) s Q hw
      rw [Option.map_eq_some_iff] at h
      obtain ⟨l, h1, rfl⟩ := h
      exact .region hT hok (Hr_ok h1 hw fun s' hs => hs)
  | seq a b iha ihb =>
    intro hc hok h s Q hw
    refine borr _ _ _ hok h (fun s Q h hw => ?_) s Q hw
    split at h
    · rename_i a' b' h1 h2
      cases h
      simp only [codeOK, Bool.and_eq_true] at hok
      refine .seq ((iha a' hok.1 h1 s _ hw).mono fun e s' hs => ?_)
      cases e with
      | normal => exact ihb b' hok.2 h2 s' Q hs
      | exit i => exact hs
      | ret => exact hs
    · cases h
  | cond c x y ihx ihy =>
    intro hc hok h s Q hw
    refine borr _ _ _ hok h (fun s Q h hw => ?_) s Q hw
    split at h
    · rename_i c' x' y' h1 h2 h3
      cases h
      simp only [codeOK, Bool.and_eq_true] at hok
      simp only [Hw] at hw
      unfold condW at hw
      split at hw
      · rename_i t ht
        refine .cond (t := t) hok.1.1 (by rw [compX_ev h1]; exact ht) ?_
        cases t with
        | true => exact ihx x' hok.1.2 h2 s Q hw
        | false => exact ihy y' hok.2 h3 s Q (by simpa using hw)
      · exact hw.elim
    · cases h
  | block id c ih =>
    intro hc hok h s Q hw
    refine borr _ _ _ hok h (fun s Q h hw => ?_) s Q hw
    rw [Option.map_eq_some_iff] at h
    obtain ⟨c', h1, rfl⟩ := h
    refine .block ((ih c' hok h1 s _ hw).mono fun e s' hs => ?_)
    cases e with
    | normal => exact hs
    | exit i =>
      simp only [blockQ] at hs
      simp only
      split at hs
      · rename_i hi; rw [if_pos hi]; exact hs
      · rename_i hi; rw [if_neg hi]; exact hs
    | ret => exact hs
  | loop c ih =>
    intro hc hok h s Q hw
    refine borr _ _ _ hok h (fun s Q h hw => ?_) s Q hw
    rw [Option.map_eq_some_iff] at h
    obtain ⟨c', h1, rfl⟩ := h
    obtain ⟨I, k, h0, hI⟩ := hw
    refine .loop (fun k s => I k s.env s.n s.h) h0 fun k s' hs => ?_
    refine (ih c' hok h1 s' _ (hI k _ _ _ hs)).mono fun e s' hs => ?_
    cases e with
    | normal => exact hs
    | exit i => exact hs
    | ret => exact hs
  | scope c ih => intro hc hok h s Q hw; exact .scope (ih hc hok h s Q hw)
  | _ => intro hc hok h s Q hw; exact bmap _ _ hok h s Q hw

/-! ### a function's answer -/
structure Fh (P : Program) (f : FuncId) (hc : HC) (r : List RX) : Prop where
  ex : ∃ fn, P.funcs[f]? = some fn ∧ fn.body.isSome = true ∧ (fn.name == "runtime.NumGoroutine") = false ∧ codeOK fn.ntmps (bodyOf fn) = true ∧ (∃ imp, compH imp P (bodyOf fn) = some hc) ∧ compRS P fn.results.toList = some r
theorem Fh.of {P : Program} {f : FuncId} {fn : Func} (imp : FuncId → Bool) {hc : HC} {r : List RX} (h1 : P.funcs[f]? = some fn) (h2 : fn.body.isSome = true) (h3 : (fn.name == "runtime.NumGoroutine") = false) (h4 : codeOK fn.ntmps (bodyOf fn) = true)
    (h5 : compH imp P (bodyOf fn) = some hc) (h6 : compRS P fn.results.toList = some r) : Fh P f hc r := ⟨fn, h1, h2, h3, h4, ⟨imp, h5⟩, h6⟩
def FnH (C : Ctx) (hc : HC) (r : List RX) (args : List AV) (v : AV) : Prop := Hw C hc (initE args) 0 h0 (doneQ r v)
theorem PS.ofH {C : Ctx} (hT : TabOK C) (hm : C.P.follows .mixedOrders = true) {f : FuncId} {hc : HC} {r : List RX} (hf : Fh C.P f hc r) {G : List AV → Option AV} (hG : ∀ args v, G args = some v → FnH C hc r args v) : PS C.P C.gl f G := by
  obtain ⟨fn, h1, h2, h3, h4, ⟨imp, h5⟩, h6⟩ := hf.ex
  obtain ⟨c, hb⟩ := Option.isSome_iff_exists.1 h2
  have hbo : bodyOf fn = c := by simp [bodyOf, hb]
  rw [hbo] at h4 h5
  refine pure_of_Sim h1 hb h3 fun args v hv => ?_
  refine (Hw_ok hT hm c hc h4 h5 ⟨initE args, 0, fun _ => .dead, 0, []⟩ _ (hG args v hv)).mono fun e s' h => ?_
  have key : (optW (resXs s'.env s'.h r) fun vs => optW (snap s'.h snapD (packV vs)) fun x => x.1 = v) → ∃ vs, resVs C.P s'.env s'.h fn.results.toList = some vs ∧ (snap s'.h snapD (packV vs)).map (·.1) = some v := by
    intro h
    rw [resXs_ok h6]
    unfold optW at h
    split at h
    · rename_i vs hvs
      refine ⟨vs, hvs, ?_⟩
      split at h
      · rename_i x hx; rw [hx]; simp [h]
      · exact h.elim
    · exact h.elim
  cases e with
  | normal => exact ⟨fun i q => (by cases q), key h⟩
  | exit i => exact h.elim
  | ret => exact ⟨fun i q => (by cases q), key h⟩
end Go.Pv
