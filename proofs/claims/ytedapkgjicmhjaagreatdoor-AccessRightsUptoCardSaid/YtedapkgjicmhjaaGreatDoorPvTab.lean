/- A part of the proof that AccessRights returns true wherever its input is of bulk at most 1048576: what the functions that it reaches answer. No theorem of the claim stands here. -/
import Derived.Test.YtedapkgjicmhjaaGreatDoorPvScan
namespace Go.Pv
open Go
set_option linter.unusedSimpArgs false
set_option linter.unusedVariables false

/-! ### the log of a run -/
theorem regC_log {C : Ctx} {dr : Bool} : ∀ (l : List O) (s s' : S), regC C dr l s = some s' → Logd s s' := by
  intro l
  induction l with
  | nil => intro s s' h; simp only [regC_nil, Option.some.injEq] at h; subst h; exact .refl _
  | cons o r ih =>
    intro s s' h
    simp only [regC] at h
    split at h
    · split at h
      · split at h
        · cases h
        · exact (Logd.step s _ _ _ _).trans (ih _ _ h)
      · cases h
    · exact (Logd.env s _ _ _).trans (ih _ _ h)
theorem recC_log {C : Ctx} : ∀ (l : List O) (i : Nat) (s s' : S) (rs : List Lg), recC C l i s = some (rs, s') → Logd s s' := by
  intro l
  induction l with
  | nil => intro i s s' rs h; simp only [recC, Option.some.injEq, Prod.mk.injEq] at h; obtain ⟨_, rfl⟩ := h; exact .refl _
  | cons o r ih =>
    intro i s s' rs h
    simp only [recC] at h
    split at h
    · split at h
      · split at h
        · rename_i hr; cases h; exact (Logd.step s _ _ _ _).trans (ih _ _ _ _ hr)
        · cases h
      · cases h
    · split at h
      · rename_i hr; cases h; exact (Logd.env s _ _ _).trans (ih _ _ _ _ hr)
      · cases h
theorem runC_log {C : Ctx} : ∀ (c : CC) (s s' : S) (e : Ex), runC C c s = some (e, s') → Logd s s' := by
  intro c
  induction c with
  | skip => intro s s' e h; simp only [runC] at h; cases h; exact .refl _
  | reg dr l =>
    intro s s' e h
    simp only [runC] at h
    split at h
    · rename_i hr; cases h; exact regC_log _ _ _ hr
    · cases h
  | regW ms l =>
    intro s s' e h
    simp only [runC] at h
    split at h
    · rename_i hr
      split at h
      · cases h; exact recC_log _ _ _ _ _ hr
      · cases h
    · cases h
  | seq a b iha ihb =>
    intro s s' e h
    simp only [runC] at h
    cases ha : runC C a s with
    | none => rw [ha] at h; cases h
    | some p =>
      obtain ⟨e1, s1⟩ := p
      have h1 := iha _ _ _ ha
      rw [ha] at h
      cases e1 with
      | normal => exact h1.trans (ihb _ _ _ h)
      | exit i => cases h; exact h1
      | ret => cases h; exact h1
  | cond c x y ihx ihy =>
    intro s s' e h
    simp only [runC] at h
    split at h
    · split at h
      · exact ihx _ _ _ h
      · exact ihy _ _ _ h
    · cases h
  | block id c ih =>
    intro s s' e h
    simp only [runC] at h
    cases ha : runC C c s with
    | none => rw [ha] at h; cases h
    | some p =>
      obtain ⟨e1, s1⟩ := p
      have h1 := ih _ _ _ ha
      rw [ha] at h
      cases e1 with
      | normal => cases h; exact h1
      | exit i =>
        simp only at h
        split at h <;> (cases h; exact h1)
      | ret => cases h; exact h1
  | loop c ih =>
    intro s s' e h
    simp only [runC] at h
    obtain ⟨k, hk⟩ := iter_of_loopLim h
    exact iter_log (fun s s' e h => ih s s' e h) _ _ _ _ hk
  | exit id => intro s s' e h; simp only [runC] at h; cases h; exact .refl _
  | ret => intro s s' e h; simp only [runC] at h; cases h; exact .refl _

/-- A function that writes: how its run ends. -/
def doneI (r : List RX) (P : AV → Nat → Hp → Prop) : Ex → Env → Nat → Hp → Prop
  | .exit _, _, _, _ => False
  | _, env, n, h => optW (resXs env h r) fun vs => P (packV vs) n h
def resI (P : AV → Nat → Hp → Prop) (n : Nat) (h : Hp) : Option (List AV) → Prop
  | some vs => P (packV vs) n h
  | none => False
@[simp] theorem resI_s {P n h vs} : resI P n h (some vs) = P (packV vs) n h := rfl
@[simp] theorem doneI_n {r P env n h} : doneI r P .normal env n h = resI P n h (resXs env h r) := by
  simp only [doneI]; cases resXs env h r <;> rfl
@[simp] theorem doneI_r {r P env n h} : doneI r P .ret env n h = resI P n h (resXs env h r) := by
  simp only [doneI]; cases resXs env h r <;> rfl
def FnI (C : Ctx) (c : CC) (r : List RX) (args : List AV) (n : Nat) (h : Hp) (P : AV → Nat → Hp → Prop) : Prop := Wk C (doneI r P) c [] (initE args) n h
/-- What a run of a function that writes comes to. -/
noncomputable def fnR (C : Ctx) (c : CC) (r : List RX) (args : List AV) (n : Nat) (h : Hp) : Option (AV × List (Nat × AO) × Nat) :=
  match runC C c ⟨initE args, n, h, 0, []⟩ with
  | some (.exit _, _) => none
  | some (_, s) => match resXs s.env s.h r with
    | some vs => some (packV vs, s.lg, s.n)
    | none => none
  | none => none
open Classical in
/-- The writes that change something, each as it is at the end. -/
noncomputable def netW (h : Hp) (ws : List (Nat × AO)) : List (Nat × AO) := (ws.filter fun w => decide (updW h ws w.1 ≠ h w.1)).map fun w => (w.1, updW h ws w.1)
theorem updW_fin (F : Hp) : ∀ (l : List (Nat × AO)) (h : Hp), (∀ w ∈ l, w.2 = F w.1) → ∀ j, updW h l j = if ∃ w ∈ l, w.1 = j then F j else h j := by
  intro l
  induction l with
  | nil => intro h _ j; simp [updW]
  | cons w r ih =>
    intro h hl j
    obtain ⟨i, o⟩ := w
    show updW (upd h i o) r j = _
    rw [ih (upd h i o) (fun w hw => hl w (by simp [hw])) j]
    by_cases h1 : ∃ w ∈ r, w.1 = j
    · rw [if_pos h1, if_pos (by obtain ⟨w, hw, e⟩ := h1; exact ⟨w, by simp [hw], e⟩)]
    · rw [if_neg h1]
      by_cases hij : j = i
      · subst hij
        have := hl (j, o) (by simp)
        rw [if_pos ⟨(j, o), by simp, rfl⟩]
        simpa [upd] using this
      · rw [if_neg (by rintro ⟨w, hw, e⟩; rcases List.mem_cons.1 hw with rfl | hw; exact hij e.symm; exact h1 ⟨w, hw, e⟩)]
        simp [upd, hij]
theorem updW_out : ∀ (l : List (Nat × AO)) (h : Hp) (j : Nat), (¬ ∃ w ∈ l, w.1 = j) → updW h l j = h j := by
  intro l
  induction l with
  | nil => intro h j _; rfl
  | cons w r ih =>
    intro h j hn
    obtain ⟨i, o⟩ := w
    show updW (upd h i o) r j = _
    rw [ih (upd h i o) j fun ⟨w, hw, e⟩ => hn ⟨w, by simp [hw], e⟩]
    have : j ≠ i := fun e => hn ⟨(i, o), by simp, e.symm⟩
    simp [upd, this]
theorem netW_eq (h : Hp) (ws : List (Nat × AO)) : updW h (netW h ws) = updW h ws := by
  funext j
  rw [updW_fin (updW h ws) (netW h ws) h (by
    intro w hw
    simp only [netW, List.mem_map] at hw
    obtain ⟨w0, _, rfl⟩ := hw; rfl)]
  split
  · rfl
  · rename_i hn
    by_cases he : updW h ws j = h j
    · exact he.symm
    · exfalso
      have hin : ∃ w ∈ ws, w.1 = j := by
        by_cases q : ∃ w ∈ ws, w.1 = j
        · exact q
        · exact absurd (updW_out ws h j q) he
      obtain ⟨w, hw, rfl⟩ := hin
      refine hn ⟨(w.1, updW h ws w.1), ?_, rfl⟩
      simp only [netW, List.mem_map]
      exact ⟨w, List.mem_filter.2 ⟨hw, by simpa using he⟩, rfl⟩
theorem netW_new (h : Hp) (ws : List (Nat × AO)) : ∀ w ∈ netW h ws, updW h ws w.1 ≠ h w.1 := by
  intro w hw
  simp only [netW, List.mem_map] at hw
  obtain ⟨w0, hw0, rfl⟩ := hw
  have := (List.mem_filter.1 hw0).2
  simpa using this
/-- The table's entry of a function that writes. -/
noncomputable def fnT (C : Ctx) (c : CC) (r : List RX) (args : List AV) (n : Nat) (h : Hp) : Option (AV × List (Nat × AO) × Nat) := (fnR C c r args n h).map fun x => (x.1, netW h x.2.1, x.2.2)
theorem FnI.ok2 {C : Ctx} {c : CC} {r : List RX} {args : List AV} {n : Nat} {h : Hp} {P : AV → Nat → Hp → Prop} (w : FnI C c r args n h P) : ∃ v ws n', fnT C c r args n h = some (v, ws, n') ∧ P v n' (updW h ws) ∧ ∀ w ∈ ws, updW h ws w.1 ≠ h w.1 := by
  obtain ⟨e, s', h1, h2⟩ := w
  unfold fnT fnR
  rw [h1]
  obtain ⟨l, hl1, hl2⟩ := runC_log _ _ _ _ h1
  simp only [List.nil_append] at hl1 hl2
  have key : (optW (resXs s'.env s'.h r) fun vs => P (packV vs) s'.n s'.h) → ∃ v ws n', Option.map (fun x : AV × List (Nat × AO) × Nat => (x.1, netW h x.2.1, x.2.2)) (match resXs s'.env s'.h r with | some vs => some (packV vs, s'.lg, s'.n) | none => none) = some (v, ws, n') ∧ P v n' (updW h ws) ∧ ∀ w ∈ ws, updW h ws w.1 ≠ h w.1 := by
    intro q
    unfold optW at q
    split at q
    · rename_i vs hvs
      rw [hvs]
      refine ⟨_, _, _, rfl, ?_, ?_⟩
      · simp only [netW_eq, hl1, ← hl2]; exact q
      · simp only [netW_eq]; exact netW_new h s'.lg
    · exact q.elim
  cases e with
  | normal => exact key h2
  | exit i => exact h2.elim
  | ret => exact key h2
theorem FnI.ok {C : Ctx} {c : CC} {r : List RX} {args : List AV} {n : Nat} {h : Hp} {P : AV → Nat → Hp → Prop} (w : FnI C c r args n h P) : ∃ v ws n', fnT C c r args n h = some (v, ws, n') ∧ P v n' (updW h ws) := by
  obtain ⟨v, ws, n', a, b, _⟩ := w.ok2
  exact ⟨v, ws, n', a, b⟩
theorem IS.net {P : Program} {gl : Nat → List AV} {f : FuncId} {F G : List AV → Nat → Hp → Option (AV × List (Nat × AO) × Nat)} (h : IS P gl f F) (hG : ∀ args n hp v ws n', G args n hp = some (v, ws, n') → ∃ ws0, F args n hp = some (v, ws0, n') ∧ updW hp ws = updW hp ws0) : IS P gl f G := by
  intro args n hp v ws n' hv
  obtain ⟨ws0, h1, h2⟩ := hG args n hp v ws n' hv
  obtain ⟨k1, k2⟩ := h args n hp v ws0 n' h1
  refine ⟨k1, fun im w φ vals hR => ?_⟩
  rw [h2]
  exact k2 im w φ vals hR
theorem IS.of {C : Ctx} (hT : TabOK C) (hm : C.P.follows .mixedOrders = true) {f : FuncId} {cc : CC} {r : List RX} (hf : Fx C.P f cc r) : IS C.P C.gl f (fnT C cc r) := by
  obtain ⟨rs, h1, h2⟩ := hf.ex
  have key : IS C.P C.gl f (fnR C cc r) := by
    refine imp_of_fnCI hT hm h1 fun args n hp v hv => ?_
    unfold fnR at hv
    unfold fnCI
    revert hv
    cases runC C cc ⟨initE args, n, hp, 0, []⟩ with
    | none => exact id
    | some p =>
      obtain ⟨e, s⟩ := p
      cases e <;> simp only [resXs_ok h2] <;> exact id
  refine key.net fun args n hp v ws n' hv => ?_
  unfold fnT at hv
  simp only [Option.map_eq_some_iff, Prod.mk.injEq] at hv
  obtain ⟨⟨v0, ws0, n0⟩, q, rfl, rfl, rfl⟩ := hv
  exact ⟨ws0, q, netW_eq hp ws0⟩

/-! ### tables that grow -/
def Ctx.addP (C : Ctx) (f : FuncId) (G : List AV → Option AV) : Ctx := { C with TP := fun g => if g = f then some G else C.TP g }
def Ctx.addI (C : Ctx) (f : FuncId) (T : List AV → Nat → Hp → Option (AV × List (Nat × AO) × Nat)) : Ctx := { C with TI := fun g => if g = f then T else C.TI g }
theorem TabOK.addP {C : Ctx} (hT : TabOK C) {f : FuncId} {G : List AV → Option AV} (h : PS C.P C.gl f G) : TabOK (C.addP f G) where
  pure := fun g F hF => by
    simp only [Ctx.addP] at hF ⊢
    split at hF
    · rename_i e; cases hF; subst e; exact h
    · exact hT.pure g F hF
  imp := fun g => hT.imp g
theorem TabOK.addI {C : Ctx} (hT : TabOK C) {f : FuncId} {T : List AV → Nat → Hp → Option (AV × List (Nat × AO) × Nat)} (h : IS C.P C.gl f T) : TabOK (C.addI f T) where
  pure := hT.pure
  imp := fun g => by
    simp only [Ctx.addI]
    split
    · rename_i e; subst e; exact h
    · exact hT.imp g
/-- What is asked of the program, once. -/
structure Good (C : Ctx) : Prop where
  tab : TabOK C
  ord : C.P.follows .mixedOrders = true
theorem Good.addP {C : Ctx} (g : Good C) {f : FuncId} {cc : CC} {r : List RX} (hf : Fx C.P f cc r) (G : List AV → Option AV) (hG : ∀ args v, G args = some v → FnW C cc r args v) : Good (C.addP f G) :=
  ⟨g.tab.addP (PS.of g.tab g.ord hf hG), g.ord⟩
theorem Good.addI {C : Ctx} (g : Good C) {f : FuncId} {cc : CC} {r : List RX} (hf : Fx C.P f cc r) : Good (C.addI f (fnT C cc r)) :=
  ⟨g.tab.addI (IS.of g.tab g.ord hf), g.ord⟩
def Ctx.base (P : Program) (gl : Nat → List AV) : Ctx := { P := P, gl := gl, TP := fun _ => none, TI := fun _ _ _ _ => none, χ := fun _ => 0 }
theorem Good.base {P : Program} (gl : Nat → List AV) (h : P.follows .mixedOrders = true) : Good (Ctx.base P gl) := ⟨{ pure := fun f F hF => (by simp [Ctx.base] at hF), imp := fun f => IS.none }, h⟩
end Go.Pv
