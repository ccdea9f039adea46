/- A part of the proof that AccessRights returns true wherever its input is of bulk at most 1048576: what the functions that it reaches answer. No theorem of the claim stands here. -/
import Derived.Test.YtedapkgjicmhjaaGreatDoorPvCE
namespace Go.Pv
open Go
set_option linter.unusedSimpArgs false
set_option linter.unusedVariables false

theorem wantC_ok {ops : Array Oper} {o : Oper} {g : Option (Nat × Bool)} (h : compG ops o.guard = some g) (env : Nat → AV) : wantC env g = wantA ops env o := by
  unfold compG at h
  unfold wantA
  split at h
  · rename_i hg; cases h; rw [hg]; rfl
  · rename_i j want hg
    rw [hg]
    simp only
    split at h
    · rename_i t ht; cases h; rw [ht]; rfl
    · cases h

theorem compOp_ok {P : Program} {ops : Array Oper} {o : Oper} {x : O} (h : compOp P ops o = some x) : compI P o.op = some x.i ∧ compG ops o.guard = some x.g ∧ x.d = o.dst := by
  unfold compOp at h
  split at h
  · rename_i i g h1 h2; cases h; exact ⟨h1, h2, rfl⟩
  · cases h

theorem regC_ok {C : Ctx} {ops : Array Oper} : ∀ {l : List Oper} {l' : List O}, compOs C.P ops l = some l' → ∀ {s s' : S}, regC C false l' s = some s' → opsRun C false ops l s = some s' := by
  intro l
  induction l with
  | nil => intro l' h s s' hr; simp only [compOs] at h; cases h; exact hr
  | cons o r ih =>
    intro l' h s s' hr
    simp only [compOs] at h
    split at h
    · rename_i x l1 h1 h2
      cases h
      obtain ⟨k1, k2, k3⟩ := compOp_ok h1
      simp only [regC] at hr
      simp only [opsRun]
      rw [← wantC_ok k2]
      split at hr
      · rename_i hw
        rw [if_pos hw]
        split at hr
        · rename_i v ws n' he
          simp only [Bool.false_and, Bool.false_eq_true, if_false] at hr
          rw [compI_ok o k1 he]
          simp only
          rw [← k3]
          exact ih h2 hr
        · cases hr
      · rename_i hw
        rw [if_neg hw, ← k3]
        exact ih h2 hr
    · cases h

theorem regCd_ok {C : Ctx} {ops : Array Oper} : ∀ {l : List Oper} {l' : List O}, compOs C.P ops l = some l' → ∀ {s s' : S} (i : Nat), regC C true l' s = some s' → ∃ rs, opsRec C ops l i s = some (rs, s') ∧ ∀ r ∈ rs, r.ws = [] := by
  intro l
  induction l with
  | nil => intro l' h s s' i hr; simp only [compOs] at h; cases h; simp only [regC] at hr; cases hr; exact ⟨[], rfl, by simp⟩
  | cons o r ih =>
    intro l' h s s' i hr
    simp only [compOs] at h
    split at h
    · rename_i x l1 h1 h2
      cases h
      obtain ⟨k1, k2, k3⟩ := compOp_ok h1
      simp only [regC] at hr
      simp only [opsRec]
      rw [← wantC_ok k2]
      split at hr
      · rename_i hw
        rw [if_pos hw]
        split at hr
        · rename_i v ws n' he
          split at hr
          · cases hr
          · rename_i hws
            have hws' : ws = [] := by
              cases ws with
              | nil => rfl
              | cons a b => simp at hws
            subst hws'
            rw [compI_ok o k1 he]
            obtain ⟨rs, q1, q2⟩ := ih h2 (i + 1) hr
            rw [k3] at q1
            simp only [if_true, q1]
            refine ⟨_, rfl, fun q hq => ?_⟩
            rcases List.mem_cons.1 hq with rfl | hq
            · rfl
            · exact q2 q hq
        · cases hr
      · rename_i hw
        rw [if_neg hw]
        obtain ⟨rs, q1, q2⟩ := ih h2 (i + 1) hr
        rw [k3] at q1
        simp only [q1]
        refine ⟨_, rfl, fun q hq => ?_⟩
        rcases List.mem_cons.1 hq with rfl | hq
        · rfl
        · exact q2 q hq
    · cases h

theorem mapX_ids {gl : Nat → List AV} {env : Nat → AV} : ∀ {l : List Operand} {xs : List X}, compXs l = some xs → l.flatMap (fun x => ids1 (evA gl env x)) = (mapX gl env xs).flatMap ids1 := by
  intro l xs h
  rw [← compXs_ev h, List.flatMap_map]
theorem rdI_ok {C : Ctx} {env : Nat → AV} {h : Hp} {op : Op} {i : I} (hc : compI C.P op = some i) : rdE C (evA C.gl env) op h = rdI C env h i := by
  cases op
  case call c =>
    obtain ⟨callee, args, ats⟩ := c
    cases callee with
    | value f =>
      simp only [compI] at hc
      split at hc
      · rename_i g
        simp only [Option.map_eq_some_iff] at hc
        obtain ⟨l, h1, rfl⟩ := hc
        simp only [rdE, rdI, evA, compXs_ev h1, List.append_nil]
        cases C.TP g <;> rfl
      · split at hc
        · rename_i f' l h1 h2
          cases hc
          simp only [rdE, rdI, compX_ev h1, compXs_ev h2]
          cases f'.ev C.gl env <;> first | rfl | (rename_i g caps; cases C.TP g <;> rfl)
        · cases hc
    | invoke r m => simp [compI] at hc
    | builtin b =>
      simp only [rdE]
      cases b
      case append =>
        simp only [compI] at hc
        split at hc
        · rename_i st xt s x h1 h2
          split at hc
          · split at hc
            · split at hc
              · cases hc
                rw [mapX_ids h2]
                simp [rdI, mapX]
              · cases hc
            · cases hc
          · cases hc
        · cases hc
      case len =>
        simp only [compI] at hc
        split at hc
        · rename_i t x h1 h2
          rw [mapX_ids h2]
          split at hc
          · cases hc; simp [rdI, mapX]
          · split at hc
            · cases hc; simp [rdI, mapX]
            · split at hc
              · cases hc; simp [rdI, mapX]
              · cases hc
        · cases hc
      case min =>
        simp only [compI, Option.map_eq_some_iff] at hc
        obtain ⟨l, h1, rfl⟩ := hc
        rw [mapX_ids h1]; rfl
      case max =>
        simp only [compI, Option.map_eq_some_iff] at hc
        obtain ⟨l, h1, rfl⟩ := hc
        rw [mapX_ids h1]; rfl
      all_goals (simp [compI] at hc)
  case load t a =>
    simp only [compI] at hc
    split at hc
    · rename_i r a' h1 h2; cases hc; simp only [rdE, rdI, compX_ev h2]
    · cases hc
  case lookup t m k ok =>
    simp only [compI] at hc
    split at hc
    · rename_i kt et m' k' h1 h2 h3
      split at hc
      · cases hc; simp only [rdE, rdI, compX_ev h2]
      · cases hc
    · cases hc
  case store t a x =>
    simp only [compI] at hc
    split at hc
    · rename_i sz a' x' h1 h2 h3; cases hc; simp only [rdE, rdI, compX_ev h2]
    · cases hc
  case mapUpdate t m k x =>
    simp only [compI] at hc
    split at hc
    · rename_i kt et m' k' x' h1 h2 h3 h4
      simp only [Option.map_eq_some_iff] at hc
      obtain ⟨q, h5, rfl⟩ := hc
      simp only [rdE, rdI, compX_ev h2]
    · cases hc
  case makeFunc fn first caps =>
    cases fn <;> simp only [compI] at hc
    case func f =>
      split at hc
      · simp only [Option.map_eq_some_iff] at hc
        obtain ⟨q, h5, rfl⟩ := hc
        rfl
      · cases hc
    all_goals cases hc
  all_goals
    (simp only [compI] at hc)
  all_goals
    (first
      | (cases hc; done)
      | (simp only [Option.map_eq_some_iff] at hc; obtain ⟨q, h5, rfl⟩ := hc; rfl)
      | (repeat' split at hc
         all_goals first | (cases hc; done) | (cases hc; rfl) | (simp only [Option.map_eq_some_iff] at hc; obtain ⟨q, h5, rfl⟩ := hc; rfl)))

def toLg (r : Rec) : Lg := ⟨r.i, r.ws.map (·.1), r.rd⟩
theorem recC_ok {C : Ctx} {ops : Array Oper} : ∀ {l : List Oper} {l' : List O}, compOs C.P ops l = some l' → ∀ {s s' : S} (i : Nat) {lg : List Lg}, recC C l' i s = some (lg, s') → ∃ rs, opsRec C ops l i s = some (rs, s') ∧ rs.map toLg = lg := by
  intro l
  induction l with
  | nil => intro l' h s s' i lg hr; simp only [compOs] at h; cases h; simp only [recC] at hr; cases hr; exact ⟨[], rfl, rfl⟩
  | cons o r ih =>
    intro l' h s s' i lg hr
    simp only [compOs] at h
    split at h
    · rename_i x l1 h1 h2
      cases h
      obtain ⟨k1, k2, k3⟩ := compOp_ok h1
      simp only [recC] at hr
      simp only [opsRec]
      rw [← wantC_ok k2]
      split at hr
      · rename_i hw
        rw [if_pos hw]
        split at hr
        · rename_i v ws n' he
          split at hr
          · rename_i lg1 s1 hr1
            cases hr
            rw [compI_ok o k1 he]
            obtain ⟨rs, q1, q2⟩ := ih h2 (i + 1) hr1
            rw [k3] at q1
            simp only [if_true, q1]
            exact ⟨_, rfl, by simp [toLg, q2, rdI_ok k1]⟩
          · cases hr
        · cases hr
      · rename_i hw
        rw [if_neg hw]
        split at hr
        · rename_i lg1 s1 hr1
          cases hr
          obtain ⟨rs, q1, q2⟩ := ih h2 (i + 1) hr1
          rw [k3] at q1
          simp only [q1]
          exact ⟨_, rfl, by simp [toLg, q2]⟩
        · cases hr
    · cases h
theorem indL_ok {a b : Rec} (h : indL (toLg a) (toLg b) = true) : indH a b = true := by
  simp only [indL, toLg, List.all_map, Bool.and_eq_true, List.all_eq_true] at h
  simp only [indH, Bool.and_eq_true, List.all_eq_true]
  refine ⟨fun w hw => ?_, fun w hw => ?_⟩
  · have := h.1 w hw
    simp only [Function.comp, Bool.and_eq_true] at this
    refine ⟨this.1, ?_⟩
    have q := this.2
    simp only [Bool.not_eq_true', List.contains_eq_mem, List.mem_map, decide_eq_false_iff_not] at q
    simp only [Bool.not_eq_true', List.any_eq_false]
    intro u hu e
    exact q ⟨u, hu, by simpa using e⟩
  · have := h.2 w hw
    simp only [Function.comp] at this
    cases hr : a.rd with
    | none => rw [hr] at this; exact this
    | some l => rw [hr] at this; exact this
theorem confL_ok {ops : Array Oper} : ∀ {rs : List Rec}, confL (masks ops.toList []) (rs.map toLg) = true → pairsB (fun r1 r2 => ancB ops r1.i r2.i || indH r1 r2) rs = true := by
  intro rs
  induction rs with
  | nil => intro _; rfl
  | cons r l ih =>
    intro h
    simp only [confL, List.map_cons, pairsL, Bool.and_eq_true, List.all_map, List.all_eq_true] at h
    simp only [pairsB, Bool.and_eq_true, List.all_eq_true]
    refine ⟨fun q hq => ?_, ih h.2⟩
    have := h.1 q hq
    simp only [Function.comp, Bool.or_eq_true] at this ⊢
    rcases this with q1 | q1
    · exact .inl q1
    · exact .inr (indL_ok q1)

theorem iter_sub {f g : S → Option (Ex × S)} (h : ∀ s r, f s = some r → g s = some r) : ∀ (k : Nat) (s : S) (r : Ex × S), iter f k s = some r → iter g k s = some r := by
  intro k
  induction k with
  | zero => intro s r hr; simp [iter] at hr
  | succ k ih =>
    intro s r hr
    rw [iter] at hr ⊢
    cases hf : f s with
    | none => rw [hf] at hr; cases hr
    | some p =>
      rw [hf] at hr
      rw [h s p hf]
      obtain ⟨e, s1⟩ := p
      cases e with
      | normal => exact ih _ _ hr
      | exit i => exact hr
      | ret => exact hr

theorem runC_ok {C : Ctx} {imp : FuncId → Bool} : ∀ (c : Code) (cc : CC), comp imp C.P c = some cc → ∀ (s : S) (r : Ex × S), runC C cc s = some r → run C c s = some r := by
  intro c
  induction c with
  | skip => intro cc h s r hr; simp only [comp] at h; cases h; exact hr
  | label l => intro cc h s r hr; simp only [comp] at h; cases h; exact hr
  | region id ops dr =>
    intro cc h s r hr
    cases dr with
    | false =>
      simp only [comp, Option.map_eq_some_iff] at h
      obtain ⟨l, h1, rfl⟩ := h
      simp only [runC] at hr
      simp only [run]
      split at hr
      · rename_i s' hs
        cases hr
        rw [regC_ok h1 hs]; rfl
      · cases hr
    | true =>
      simp only [comp, Option.map_eq_some_iff] at h
      obtain ⟨l, h1, rfl⟩ := h
      simp only [run, regRun]
      split at hr
      · simp only [runC] at hr
        split at hr
        · rename_i s' hs
          cases hr
          obtain ⟨rs, q1, q2⟩ := regCd_ok h1 0 hs
          have hconf : confB ops rs = true := by
            simp only [confB, Bool.or_eq_true]
            left
            exact List.all_eq_true.2 fun x hx => by simp [q2 x hx]
          simp only [q1, hconf, if_true, Option.map_some]
        · cases hr
      · simp only [runC] at hr
        split at hr
        · rename_i lg s' hs
          split at hr
          · rename_i hcf
            cases hr
            obtain ⟨rs, q1, q2⟩ := recC_ok h1 0 hs
            subst q2
            have hconf : confB ops rs = true := by
              simp only [confB, Bool.or_eq_true]
              right
              exact confL_ok hcf
            simp only [q1, hconf, if_true, Option.map_some]
          · cases hr
        · cases hr
  | seq a b iha ihb =>
    intro cc h s r hr
    simp only [comp] at h
    split at h
    · rename_i a' b' h1 h2
      cases h
      simp only [runC] at hr
      simp only [run]
      cases ha : runC C a' s with
      | none => rw [ha] at hr; cases hr
      | some p =>
        rw [ha] at hr
        rw [iha _ h1 _ _ ha]
        obtain ⟨e, s1⟩ := p
        cases e with
        | normal => exact ihb _ h2 _ _ hr
        | exit i => exact hr
        | ret => exact hr
    · cases h
  | cond c x y ihx ihy =>
    intro cc h s r hr
    simp only [comp] at h
    split at h
    · rename_i c' x' y' h1 h2 h3
      cases h
      simp only [runC] at hr
      simp only [run, compX_ev h1]
      split at hr
      · rename_i t ht
        rw [ht]
        cases t with
        | true => exact ihx _ h2 _ _ hr
        | false => exact ihy _ h3 _ _ hr
      · cases hr
    · cases h
  | block id c ih =>
    intro cc h s r hr
    simp only [comp, Option.map_eq_some_iff] at h
    obtain ⟨c', h1, rfl⟩ := h
    simp only [runC] at hr
    simp only [run]
    cases ha : runC C c' s with
    | none => rw [ha] at hr; cases hr
    | some p =>
      rw [ha] at hr
      rw [ih _ h1 _ _ ha]
      obtain ⟨e, s1⟩ := p
      cases e <;> exact hr
  | loop c ih =>
    intro cc h s r hr
    simp only [comp, Option.map_eq_some_iff] at h
    obtain ⟨c', h1, rfl⟩ := h
    simp only [runC] at hr
    simp only [run]
    obtain ⟨k, hk⟩ := iter_of_loopLim hr
    exact loopLim_of_iter (iter_sub (fun s r hs => ih _ h1 _ _ hs) k s r hk)
  | exit id => intro cc h s r hr; simp only [comp] at h; cases h; exact hr
  | scope c ih => intro cc h s r hr; simp only [comp] at h; simp only [run]; exact ih _ h _ _ hr
  | ret => intro cc h s r hr; simp only [comp] at h; cases h; exact hr
  | _ => intro cc h; simp [comp] at h

/-- A function's answer, by its small code. -/
noncomputable def fnC (C : Ctx) (c : CC) (rs : List ResultVar) (args : List AV) : Option AV :=
  match runC C c ⟨initE args, 0, fun _ => .dead, 0, []⟩ with
  | some (.exit _, _) => none
  | some (_, s) => match resVs C.P s.env s.h rs with
    | some vs => (snap s.h snapD (packV vs)).map (·.1)
    | none => none
  | none => none
theorem fnC_ok {C : Ctx} {imp : FuncId → Bool} {c : Code} {cc : CC} (h : comp imp C.P c = some cc) {rs : List ResultVar} {args : List AV} {v : AV} (hv : fnC C cc rs args = some v) : fnRun C c rs args = some v := by
  unfold fnC at hv
  unfold fnRun
  cases hr : runC C cc ⟨initE args, 0, fun _ => .dead, 0, []⟩ with
  | none => rw [hr] at hv; cases hv
  | some p =>
    rw [runC_ok _ _ h _ _ hr]
    rw [hr] at hv
    obtain ⟨e, s⟩ := p
    cases e <;> exact hv

theorem PS.sub {P : Program} {gl : Nat → List AV} {f : FuncId} {F G : List AV → Option AV} (h : PS P gl f F) (hs : ∀ args v, G args = some v → F args = some v) : PS P gl f G := fun args v hv => h args v (hs args v hv)

/-- What is asked of a function's text, once. -/
structure Fn (P : Program) (f : FuncId) (cc : CC) (rs : List ResultVar) : Prop where
  ex : ∃ fn c imp, P.funcs[f]? = some fn ∧ fn.body = some c ∧ (fn.name == "runtime.NumGoroutine") = false ∧ codeOK fn.ntmps c = true ∧ comp imp P c = some cc ∧ fn.results.toList = rs
theorem pure_of_fnC {C : Ctx} (hT : TabOK C) (hm : C.P.follows .mixedOrders = true) {f : FuncId} {cc : CC} {rs : List ResultVar} (hf : Fn C.P f cc rs) {G : List AV → Option AV} (hG : ∀ args v, G args = some v → fnC C cc rs args = some v) : PS C.P C.gl f G := by
  obtain ⟨fn, c, imp, h1, h2, h3, h4, h5, h6⟩ := hf.ex
  refine (pure_of_run hT hm h1 h2 h3 h4).sub fun args v hv => ?_
  rw [h6]
  exact fnC_ok h5 (hG args v hv)
end Go.Pv
