/- A part of the proof that AccessRights returns true wherever its input is of bulk at most 1048576: what the functions that it reaches answer. No theorem of the claim stands here. -/
import Derived.Test.YtedapkgjicmhjaaGreatDoorPvCF
namespace Go.Pv
open Go Go.RowKit
set_option linter.unusedSimpArgs false
set_option linter.unusedVariables false

theorem updW_append : ∀ (a b : List (Nat × AO)) (h : Hp), updW h (a ++ b) = updW (updW h a) b := by
  intro a
  induction a with
  | nil => intro b h; rfl
  | cons x a ih => intro b h; obtain ⟨i, o⟩ := x; exact ih b _

/-- s' came from s by the writes that its log says. -/
def Logd (s s' : S) : Prop := ∃ l, s'.lg = s.lg ++ l ∧ s'.h = updW s.h l
theorem Logd.refl (s : S) : Logd s s := ⟨[], by simp, rfl⟩
theorem Logd.trans {a b c : S} (h : Logd a b) (k : Logd b c) : Logd a c := by
  obtain ⟨l, h1, h2⟩ := h
  obtain ⟨m, k1, k2⟩ := k
  exact ⟨l ++ m, by rw [k1, h1, List.append_assoc], by rw [k2, h2, updW_append]⟩
theorem Logd.step (s : S) (env n ch) (ws : List (Nat × AO)) : Logd s ⟨env, n, updW s.h ws, ch, s.lg ++ ws⟩ := ⟨ws, rfl, rfl⟩
theorem Logd.env (s : S) (env n ch) : Logd s ⟨env, n, s.h, ch, s.lg⟩ := ⟨[], by simp, rfl⟩

theorem opsRun_log {C : Ctx} {dr : Bool} {ops : Array Oper} : ∀ (l : List Oper) (s s' : S), opsRun C dr ops l s = some s' → Logd s s' := by
  intro l
  induction l with
  | nil => intro s s' h; simp only [opsRun] at h; cases h; exact .refl _
  | cons o r ih =>
    intro s s' h
    simp only [opsRun] at h
    split at h
    · split at h
      · exact (Logd.step s _ _ _ _).trans (ih _ _ h)
      · cases h
    · exact (Logd.env s _ _ _).trans (ih _ _ h)
theorem opsRec_log {C : Ctx} {ops : Array Oper} : ∀ (l : List Oper) (i : Nat) (s s' : S) (rs : List Rec), opsRec C ops l i s = some (rs, s') → Logd s s' := by
  intro l
  induction l with
  | nil => intro i s s' rs h; simp only [opsRec] at h; cases h; exact .refl _
  | cons o r ih =>
    intro i s s' rs h
    simp only [opsRec] at h
    split at h
    · split at h
      · split at h
        · split at h
          · rename_i hr; cases h; exact (Logd.step s _ _ _ _).trans (ih _ _ _ _ hr)
          · cases h
        · cases h
      · cases h
    · split at h
      · rename_i hr; cases h; exact (Logd.env s _ _ _).trans (ih _ _ _ _ hr)
      · cases h
theorem iter_log {f : S → Option (Ex × S)} (hf : ∀ s s' e, f s = some (e, s') → Logd s s') : ∀ (k : Nat) (s s' : S) (e : Ex), iter f k s = some (e, s') → Logd s s' := by
  intro k
  induction k with
  | zero => intro s s' e h; simp [iter] at h
  | succ k ih =>
    intro s s' e h
    rw [iter] at h
    cases hc : f s with
    | none => rw [hc] at h; cases h
    | some p =>
      obtain ⟨e1, s1⟩ := p
      have h1 := hf _ _ _ hc
      rw [hc] at h
      cases e1 with
      | normal => exact h1.trans (ih _ _ _ h)
      | exit i => cases h; exact h1
      | ret => cases h; exact h1
theorem run_log {C : Ctx} : ∀ (c : Code) (s s' : S) (e : Ex), run C c s = some (e, s') → Logd s s' := by
  intro c
  induction c with
  | skip => intro s s' e h; simp only [run] at h; cases h; exact .refl _
  | label l => intro s s' e h; simp only [run] at h; cases h; exact .refl _
  | region id ops dr =>
    intro s s' e h
    cases dr with
    | false =>
      simp only [run, Option.map_eq_some_iff] at h
      obtain ⟨s1, h1, e1⟩ := h
      cases e1
      exact opsRun_log _ _ _ h1
    | true =>
      simp only [run, Option.map_eq_some_iff] at h
      obtain ⟨s1, h1, e1⟩ := h
      cases e1
      unfold regRun at h1
      split at h1
      · rename_i hrec
        split at h1
        · cases h1; exact opsRec_log _ _ _ _ _ hrec
        · cases h1
      · cases h1
  | seq x y ihx ihy =>
    intro s s' e h
    simp only [run] at h
    cases hx : run C x s with
    | none => rw [hx] at h; cases h
    | some p =>
      obtain ⟨e1, s1⟩ := p
      have h1 := ihx _ _ _ hx
      rw [hx] at h
      cases e1 with
      | normal => exact h1.trans (ihy _ _ _ h)
      | exit i => cases h; exact h1
      | ret => cases h; exact h1
  | cond c x y ihx ihy =>
    intro s s' e h
    simp only [run] at h
    split at h
    · exact ihx _ _ _ h
    · exact ihy _ _ _ h
    · cases h
  | block id c ih =>
    intro s s' e h
    simp only [run] at h
    cases hx : run C c s with
    | none => rw [hx] at h; cases h
    | some p =>
      obtain ⟨e1, s1⟩ := p
      have h1 := ih _ _ _ hx
      rw [hx] at h
      cases e1 with
      | normal => cases h; exact h1
      | exit i =>
        simp only at h
        split at h <;> (cases h; exact h1)
      | ret => cases h; exact h1
  | loop c ih =>
    intro s s' e h
    simp only [run] at h
    obtain ⟨k, hk⟩ := iter_of_loopLim h
    exact iter_log (fun s s' e h => ih s s' e h) _ _ _ _ hk
  | exit id => intro s s' e h; simp only [run] at h; cases h; exact .refl _
  | scope c ih => intro s s' e h; simp only [run] at h; exact ih _ _ _ h
  | ret => intro s s' e h; simp only [run] at h; cases h; exact .refl _
  | _ => intro s s' e h; simp [run] at h

theorem imp_of_run {C : Ctx} (hT : TabOK C) (hm : C.P.follows .mixedOrders = true) {f : FuncId} {fn : Func} {c : Code} (hf : C.P.funcs[f]? = some fn) (hb : fn.body = some c) (hn : (fn.name == "runtime.NumGoroutine") = false) (hok : codeOK fn.ntmps c = true) :
    IS C.P C.gl f (fnRunI C c fn.results.toList) := by
  intro args n h v ws n' hv
  unfold fnRunI at hv
  cases hr : run C c ⟨initE args, n, h, 0, []⟩ with
  | none => rw [hr] at hv; cases hv
  | some p =>
    obtain ⟨e, s⟩ := p
    rw [hr] at hv
    have hv' : (∀ i, e ≠ .exit i) ∧ ∃ vs, resVs C.P s.env s.h fn.results.toList = some vs ∧ v = packV vs ∧ ws = s.lg ∧ n' = s.n := by
      cases e with
      | exit i => cases hv
      | normal =>
        simp only at hv
        split at hv
        · rename_i vs hvs; cases hv; exact ⟨by simp, vs, hvs, rfl, rfl, rfl⟩
        · cases hv
      | ret =>
        simp only at hv
        split at hv
        · rename_i vs hvs; cases hv; exact ⟨by simp, vs, hvs, rfl, rfl, rfl⟩
        · cases hv
    obtain ⟨hne, vs, hvs, rfl, rfl, rfl⟩ := hv'
    refine ⟨run_n hT _ _ _ _ hr, fun im w φ vals hR hfree hgl hA => ?_⟩
    rw [callFunc_enter hf hb hn]
    simp only [Ends]
    refine calls_of_wp hf hb ?_
    have hAt := init_at (C := C) (n := n) hR hgl hA (fn.ntmps - vals.length)
    have hsz : fn.ntmps ≤ ({ tmps := vals.toArray ++ Array.replicate (fn.ntmps - vals.length) undef, defers := [] } : Act).tmps.size := by simp; omega
    have hsize : (vals.toArray).size = vals.length := by simp
    rw [hsize]
    obtain ⟨l, hl1, hl2⟩ := run_log _ _ _ _ hr
    simp only [List.nil_append] at hl1 hl2
    refine run_sim hT hm (φ0 := φ) (n0 := n) (N := s.n) hfree hsz c hok _ s e im w φ _ _ hr (Nat.le_refl _) hAt fun im' w' φ' a' hA' => ?_
    obtain ⟨u, hu1, hu2⟩ := results_sim (fn := fn) hA'.rel hA'.env hvs
    have hpost : a'.defers = [] ∧ ∃ v, (results fn a'.tmps).run C.P w' = .ok v w' ∧ ∃ v_1, Ending.returned v = .returned v_1 ∧ ∃ im'_1 φ'_1, Out im w φ n s.n (updW h s.lg) (packV vs) im'_1 w' φ'_1 v_1 :=
      ⟨hA'.defers, u, hu1, u, rfl, im', φ', by rw [hl1, ← hl2]; exact hA'.rel, hA'.grow, hA'.dom, hu2⟩
    cases e with
    | exit i => exact absurd rfl (hne i)
    | normal => exact hpost
    | ret => exact hpost

/-! ### by small code -/
noncomputable def fnCI (C : Ctx) (c : CC) (rs : List ResultVar) (args : List AV) (n : Nat) (h : Hp) : Option (AV × List (Nat × AO) × Nat) :=
  match runC C c ⟨initE args, n, h, 0, []⟩ with
  | some (.exit _, _) => none
  | some (_, s) => match resVs C.P s.env s.h rs with
    | some vs => some (packV vs, s.lg, s.n)
    | none => none
  | none => none
theorem fnCI_ok {C : Ctx} {imp : FuncId → Bool} {c : Code} {cc : CC} (h : comp imp C.P c = some cc) {rs : List ResultVar} {args : List AV} {n : Nat} {hp : Hp} {v} (hv : fnCI C cc rs args n hp = some v) : fnRunI C c rs args n hp = some v := by
  unfold fnCI at hv
  unfold fnRunI
  cases hr : runC C cc ⟨initE args, n, hp, 0, []⟩ with
  | none => rw [hr] at hv; cases hv
  | some p =>
    rw [runC_ok _ _ h _ _ hr]
    rw [hr] at hv
    obtain ⟨e, s⟩ := p
    cases e <;> exact hv
theorem IS.sub {P : Program} {gl : Nat → List AV} {f : FuncId} {F G : List AV → Nat → Hp → Option (AV × List (Nat × AO) × Nat)} (h : IS P gl f F) (hs : ∀ args n hp v, G args n hp = some v → F args n hp = some v) : IS P gl f G :=
  fun args n hp v ws n' hv => h args n hp v ws n' (hs args n hp _ hv)
theorem IS.none {P : Program} {gl : Nat → List AV} {f : FuncId} : IS P gl f fun _ _ _ => none := fun args n hp v ws n' hv => by cases hv
theorem imp_of_fnCI {C : Ctx} (hT : TabOK C) (hm : C.P.follows .mixedOrders = true) {f : FuncId} {cc : CC} {rs : List ResultVar} (hf : Fn C.P f cc rs) {G : List AV → Nat → Hp → Option (AV × List (Nat × AO) × Nat)}
    (hG : ∀ args n hp v, G args n hp = some v → fnCI C cc rs args n hp = some v) : IS C.P C.gl f G := by
  obtain ⟨fn, c, imp, h1, h2, h3, h4, h5, h6⟩ := hf.ex
  refine (imp_of_run hT hm h1 h2 h3 h4).sub fun args n hp v hv => ?_
  rw [h6]
  exact fnCI_ok h5 (hG args n hp v hv)

/-! ### runs that the kernel can make -/
def runF (fuel : Nat) (C : Ctx) : CC → S → Option (Ex × S)
  | .skip, s => some (.normal, s)
  | .reg dr l, s => match regC C dr l s with
    | some s' => some (.normal, s')
    | none => none
  | .regW ms l, s => match recC C l 0 s with
    | some (rs, s') => if confL ms rs then some (.normal, s') else none
    | none => none
  | .seq a b, s => match runF fuel C a s with
    | some (.normal, s') => runF fuel C b s'
    | r => r
  | .cond c x y, s => match c.ev C.gl s.env with
    | .bool t => if t then runF fuel C x s else runF fuel C y s
    | _ => none
  | .block id c, s => match runF fuel C c s with
    | some (.exit i, s') => if i = id then some (.normal, s') else some (.exit i, s')
    | r => r
  | .loop c, s => iter (runF fuel C c) fuel s
  | .exit id, s => some (.exit id, s)
  | .ret, s => some (.ret, s)
theorem runF_ok {fuel : Nat} {C : Ctx} : ∀ (c : CC) (s : S) (r : Ex × S), runF fuel C c s = some r → runC C c s = some r := by
  intro c
  induction c with
  | seq a b iha ihb =>
    intro s r h
    simp only [runF] at h
    simp only [runC]
    cases ha : runF fuel C a s with
    | none => rw [ha] at h; cases h
    | some p =>
      rw [ha] at h
      rw [iha _ _ ha]
      obtain ⟨e, s1⟩ := p
      cases e with
      | normal => exact ihb _ _ h
      | exit i => exact h
      | ret => exact h
  | cond c x y ihx ihy =>
    intro s r h
    simp only [runF] at h
    simp only [runC]
    split at h
    · rename_i t ht
      rw [ht]
      simp only
      split at h
      · rename_i h1; rw [if_pos h1]; exact ihx _ _ h
      · rename_i h1; rw [if_neg h1]; exact ihy _ _ h
    · cases h
  | block id c ih =>
    intro s r h
    simp only [runF] at h
    simp only [runC]
    cases ha : runF fuel C c s with
    | none => rw [ha] at h; cases h
    | some p =>
      rw [ha] at h
      rw [ih _ _ ha]
      obtain ⟨e, s1⟩ := p
      cases e <;> exact h
  | loop c ih =>
    intro s r h
    simp only [runF] at h
    simp only [runC]
    exact loopLim_of_iter (iter_sub (fun s r hs => ih s r hs) fuel s r h)
  | _ => intro s r h; exact h

def fnF (fuel : Nat) (C : Ctx) (c : CC) (rs : List ResultVar) (args : List AV) : Option AV :=
  match runF fuel C c ⟨initE args, 0, fun _ => .dead, 0, []⟩ with
  | some (.exit _, _) => none
  | some (_, s) => match resVs C.P s.env s.h rs with
    | some vs => (snap s.h snapD (packV vs)).map (·.1)
    | none => none
  | none => none
theorem fnF_ok {fuel : Nat} {C : Ctx} {cc : CC} {rs : List ResultVar} {args : List AV} {v : AV} (hv : fnF fuel C cc rs args = some v) : fnC C cc rs args = some v := by
  unfold fnF at hv
  unfold fnC
  cases hr : runF fuel C cc ⟨initE args, 0, fun _ => .dead, 0, []⟩ with
  | none => rw [hr] at hv; cases hv
  | some p =>
    rw [runF_ok _ _ _ hr]
    rw [hr] at hv
    obtain ⟨e, s⟩ := p
    cases e <;> exact hv
def fnFI (fuel : Nat) (C : Ctx) (c : CC) (rs : List ResultVar) (args : List AV) (n : Nat) (h : Hp) : Option (AV × List (Nat × AO) × Nat) :=
  match runF fuel C c ⟨initE args, n, h, 0, []⟩ with
  | some (.exit _, _) => none
  | some (_, s) => match resVs C.P s.env s.h rs with
    | some vs => some (packV vs, s.lg, s.n)
    | none => none
  | none => none
theorem fnFI_ok {fuel : Nat} {C : Ctx} {cc : CC} {rs : List ResultVar} {args : List AV} {n : Nat} {h : Hp} {v} (hv : fnFI fuel C cc rs args n h = some v) : fnCI C cc rs args n h = some v := by
  unfold fnFI at hv
  unfold fnCI
  cases hr : runF fuel C cc ⟨initE args, n, h, 0, []⟩ with
  | none => rw [hr] at hv; cases hv
  | some p =>
    rw [runF_ok _ _ _ hr]
    rw [hr] at hv
    obtain ⟨e, s⟩ := p
    cases e <;> exact hv

def bodyOf (f : Func) : Code := f.body.getD .skip
theorem Fn.of {P : Program} {f : FuncId} {fn : Func} (imp : FuncId → Bool) {cc : CC} {rs : List ResultVar} (h1 : P.funcs[f]? = some fn) (h2 : fn.body.isSome = true) (h3 : (fn.name == "runtime.NumGoroutine") = false) (h4 : codeOK fn.ntmps (bodyOf fn) = true)
    (h5 : comp imp P (bodyOf fn) = some cc) (h6 : fn.results.toList = rs) : Fn P f cc rs := ⟨fn, bodyOf fn, imp, h1, by
  unfold bodyOf
  cases h : fn.body with
  | none => rw [h] at h2; cases h2
  | some c => rfl, h3, h4, h5, h6⟩

/-- The functions of a table: whether a function's answer alone is kept, its code, its results. -/
abbrev FT := FuncId → Option (Bool × CC × List ResultVar)
def FT.ok (P : Program) (t : FT) : Prop := ∀ f p cc rs, t f = some (p, cc, rs) → Fn P f cc rs
/-- Functions that call one another, to depth k; C0: what is known of others. -/
def deep (fuel : Nat) (t : FT) (C0 : Ctx) : Nat → Ctx
  | 0 => C0
  | k + 1 => { C0 with
      TP := fun f => match C0.TP f with
        | some F => some F
        | none => match t f with
          | some (true, cc, rs) => some (fnF fuel (deep fuel t C0 k) cc rs)
          | _ => none
      TI := fun f args n h => match t f with
        | some (false, cc, rs) => fnFI fuel (deep fuel t C0 k) cc rs args n h
        | _ => C0.TI f args n h }
theorem deep_P {fuel : Nat} {t : FT} {C0 : Ctx} : ∀ k, (deep fuel t C0 k).P = C0.P ∧ (deep fuel t C0 k).gl = C0.gl := by
  intro k; cases k <;> exact ⟨rfl, rfl⟩
theorem deep_ok {fuel : Nat} {t : FT} {C0 : Ctx} (hT : TabOK C0) (hm : C0.P.follows .mixedOrders = true) (ht : t.ok C0.P) : ∀ k, TabOK (deep fuel t C0 k) := by
  intro k
  induction k with
  | zero => exact hT
  | succ k ih =>
    have hP := (deep_P (fuel := fuel) (t := t) (C0 := C0) k)
    refine ⟨fun f F hF => ?_, fun f => ?_⟩
    · simp only [deep] at hF ⊢
      split at hF
      · rename_i F' hF'
        cases hF
        exact hT.pure f F hF'
      · split at hF
        · rename_i cc rs hfn
          cases hF
          have := pure_of_fnC (C := deep fuel t C0 k) ih (by rw [hP.1]; exact hm) (f := f) (cc := cc) (rs := rs) (by rw [hP.1]; exact ht _ _ _ _ hfn) (G := fnF fuel (deep fuel t C0 k) cc rs) fun args v hv => fnF_ok hv
          rwa [hP.1, hP.2] at this
        · cases hF
    · simp only [deep]
      cases hfn : t f with
      | none => exact hT.imp f
      | some q =>
        obtain ⟨p, cc, rs⟩ := q
        cases p with
        | true => exact hT.imp f
        | false =>
          have := imp_of_fnCI (C := deep fuel t C0 k) ih (by rw [hP.1]; exact hm) (f := f) (cc := cc) (rs := rs) (by rw [hP.1]; exact ht _ _ _ _ hfn) (G := fnFI fuel (deep fuel t C0 k) cc rs) fun args n hp v hv => fnFI_ok hv
          rwa [hP.1, hP.2] at this
end Go.Pv
