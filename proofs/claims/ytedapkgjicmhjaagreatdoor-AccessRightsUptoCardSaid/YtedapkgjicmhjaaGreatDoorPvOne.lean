/- A part of the proof that AccessRights returns true wherever its input is of bulk at most 1048576: what the functions that it reaches answer. No theorem of the claim stands here. -/
import Derived.Test.YtedapkgjicmhjaaGreatDoorPvCall
namespace Go.Pv
open Go Go.RowKit
set_option linter.unusedSimpArgs false
set_option linter.unusedVariables false

/-- The slots. -/
def EnvOK (im : Nat → Prop) (w : World) (φ : Phi) (env : Nat → AV) (a : Act) : Prop := ∀ t, V im w φ (env t) (a.tmps.getD t undef)

def goodV (a : Act) (x : Operand) : Value := if goodX x then a.eval x else undef

section
variable {im : Nat → Prop} {w : World} {φ : Phi} {h : Hp}
theorem goodV_V {gl : Nat → List AV} {env : Nat → AV} {a : Act} (he : EnvOK im w φ env a) (hg : GlOK gl im w) (x : Operand) : V im w φ (evA gl env x) (goodV a x) := by
  cases x with
  | tmp t => exact he t
  | const v =>
    cases hz : zav v with
    | none => rw [show evA gl env (.const v) = AV.no by simp [evA, hz], show goodV a (.const v) = undef by simp [goodV, goodX, hz]]; exact V.no
    | some x => rw [show evA gl env (.const v) = x by simp [evA, hz], show goodV a (.const v) = v by simp [goodV, goodX, hz, Act.eval]]; exact zav_V hz
  | global g => exact (hg g).phi (phi0_le φ)
  | func f => exact .fn f [] #[] rfl fun i hi => by simp at hi
theorem good_exec {a : Act} {o : Oper} (hg : goodOp o = true) : execOp (goodV a) o = execOp a.eval o := by
  simp only [goodOp, Bool.and_eq_true] at hg
  refine execOp_congr o (fun cs b e => ?_) (fun x hx => ?_)
  · rw [e] at hg; simp at hg
  · have := Array.all_eq_true_iff_forall_mem.1 hg.1 x hx
    simp [goodV, this]
theorem Out.refl {n : Nat} {v : AV} {u : Value} (hR : Rel im w φ h) (hV : V im w φ v u) : Out im w φ n n h v im w φ u := ⟨hR, .refl _ _ _, .refl _ _, hV⟩

theorem callA_sim {C : Ctx} (hT : TabOK C) (hgl : GlOK C.gl im w) (hR : Rel im w φ h) {dr : Bool} {f : FuncId} {args : List AV} {vals : List Value} (hA : VL im w φ args vals) {n : Nat} {v : AV} {ws : List (Nat × AO)} {n' : Nat}
    (hc : callA C dr f args n h = some (v, ws, n')) : n ≤ n' ∧ ((∀ id, n ≤ id → id < n' → φ id = none) →
    Ends C.P (fun u w' => ∃ im' φ', Out im w φ n n' (updW h ws) v im' w' φ' u) ((callFunc f vals.toArray).run C.P w)) := by
  unfold callA at hc
  split at hc
  · rename_i F hF
    split at hc
    · rename_i args' ids hs
      split at hc
      · rename_i v' hv
        have hrows := (snap_rows (h := h) snapD).2.1 _ _ _ hs
        have hRz := hR.freeze hrows
        have hGz := hR.freeze_grow ids
        have hVL : VL (Fz im φ ids) w phi0 args' vals := snapL_ok' hR hs hA (fun b hb => .inl hb) (fun id hid m hm => .inr ⟨id, hid, m, hm, rfl⟩)
        have key := hT.pure f F hF args' v' hv (Fz im φ ids) w vals hRz.imlt (hgl.grow hGz) hVL
        split at hc
        · rename_i hcond
          cases hc
          refine ⟨Nat.le_refl _, fun _ => key.mono fun u w' ⟨im', h1, h2, h3, h4⟩ => ?_⟩
          rcases hcond with rfl | hflat
          · have e : ∀ b, Fz im φ [] b ↔ im b := fun b => by simp [Fz]
            have h2' : ∀ b, im b → im' b := fun b hb => h2 b ((e b).2 hb)
            have h3' : ∀ b, im' b → im b ∨ (w.heap.size ≤ b ∧ b < w'.heap.size) := fun b hb => (h3 b hb).imp (e b).1 (fun q => q)
            exact ⟨im', φ, hR.below_im h1 h2' h3', hR.grow_below_im h1 h2' h3', Dom.refl _ _, h4.phi (phi0_le _)⟩
          · exact ⟨im, φ, hR.below h1, hR.grow_below h1, Dom.refl _ _, flat_V hflat h4⟩
        · split at hc
          · cases hc
          · cases hc
            refine ⟨Nat.le_refl _, fun _ => key.mono fun u w' ⟨im', h1, h2, h3, h4⟩ => ?_⟩
            exact ⟨im', φ, hRz.below_im h1 h2 h3, hGz.trans (hRz.grow_below_im h1 h2 h3), Dom.refl _ _, h4.phi (phi0_le _)⟩
      · cases hc
    · cases hc
  · have := hT.imp f args n h v ws n' hc
    exact ⟨this.1, fun hfr => this.2 im w φ vals hR hfr hgl hA⟩

theorem callA_n {C : Ctx} (hT : TabOK C) {dr : Bool} {f : FuncId} {args : List AV} {n : Nat} {v : AV} {ws : List (Nat × AO)} {n' : Nat} (hc : callA C dr f args n h = some (v, ws, n')) : n ≤ n' := by
  unfold callA at hc
  repeat' split at hc
  all_goals first | (cases hc; done) | (cases hc; exact Nat.le_refl _) | exact (hT.imp f args n h v ws n' hc).1
theorem opE_n {C : Ctx} (hT : TabOK C) {ρA : Operand → AV} (o : Oper) {dr : Bool} {n ch : Nat} {v : AV} {ws : List (Nat × AO)} {n' ch' : Nat} (he : opE C dr ρA o n h ch = some (v, ws, n', ch')) : n ≤ n' := by
  unfold opE at he
  split at he
  · split at he
    · simp only [Option.map_eq_some_iff, Prod.exists] at he
      obtain ⟨v1, ws1, n1, hc, e⟩ := he
      cases e
      exact callA_n hT hc
    · cases he
  · split at he
    · simp only [Option.map_eq_some_iff, Prod.exists] at he
      obtain ⟨v1, ws1, n1, hc, e⟩ := he
      cases e
      exact append_n hc
    · cases he
  · simp only [Option.map_eq_some_iff] at he
    obtain ⟨⟨id, ob⟩, hs, e⟩ := he
    cases e; exact Nat.le_refl _
  · simp only [Option.map_eq_some_iff] at he
    obtain ⟨⟨id, ob⟩, hs, e⟩ := he
    cases e; exact Nat.le_refl _
  · repeat' split at he
    all_goals first | (cases he; done) | (cases he; omega)

theorem args_get {ρA : Operand → AV} {ρ : Operand → Value} (hρ : ∀ x, V im w φ (ρA x) (ρ x)) (args : Array Operand) : VL im w φ (args.toList.map ρA) (args.map ρ).toList := by
  have := VL.operands hρ args.toList
  simpa using this

theorem opE_sim' {C : Ctx} (hT : TabOK C) (hgl : GlOK C.gl im w) (hR : Rel im w φ h) {ρA : Operand → AV} {ρ : Operand → Value} (hρ : ∀ x, V im w φ (ρA x) (ρ x)) (o : Oper) {dr : Bool} {n ch : Nat} {v : AV} {ws : List (Nat × AO)} {n' ch' : Nat}
    (he : opE C dr ρA o n h ch = some (v, ws, n', ch')) : n ≤ n' ∧ ((∀ id, n ≤ id → id < n' → φ id = none) →
    Ends C.P (fun u w' => ∃ im' φ', Out im w φ n n' (updW h ws) v im' w' φ' u) ((execOp ρ o).run C.P w)) := by
  unfold opE at he
  split at he
  · -- a call of a function
    rename_i f args ty hop
    split at he
    · rename_i g caps hf
      simp only [Option.map_eq_some_iff, Prod.exists] at he
      obtain ⟨v1, ws1, n1, hc, e⟩ := he
      cases e
      have hVf := hρ f
      rw [hf] at hVf
      generalize hvf : ρ f = vf at hVf
      cases hVf with
      | fn _ _ vcaps hs hv =>
        have hA : VL im w φ (args.toList.map ρA ++ caps) ((args.map ρ).toList ++ vcaps.toList) :=
          (args_get hρ args).append ⟨by simpa using hs, fun i hi => by have := hv i hi; simpa [List.getD_eq_getElem?_getD] using this⟩
        obtain ⟨h1, h2⟩ := callA_sim hT hgl hR hA hc
        refine ⟨h1, fun hfr => ?_⟩
        have := h2 hfr
        have e : (execOp ρ o).run C.P w = (callFunc g (args.map ρ ++ vcaps)).run C.P w := by
          obtain ⟨dst, op, oty, pos, after, guard⟩ := o
          simp only at hop
          subst hop
          simp [execOp, resolve, hvf, Deferred.ofValue, invoke]
        rw [e]
        have e2 : ((args.map ρ).toList ++ vcaps.toList).toArray = args.map ρ ++ vcaps := by
          apply Array.ext'; simp
        rwa [e2] at this
    · cases he
  · -- append
    rename_i args ats hop
    split at he
    · rename_i st xt s x h1 h2 a1 a2
      simp only [Option.map_eq_some_iff, Prod.exists] at he
      obtain ⟨v1, ws1, n1, hc, e⟩ := he
      cases e
      refine ⟨append_n hc, fun hfr => ?_⟩
      have k1 : (args.map ρ)[0]? = some (ρ s) := by simp [a1]
      have k2 : (args.map ρ)[1]? = some (ρ x) := by simp [a2]
      obtain ⟨u, w', φ', q1, q2⟩ := append_sim (P := C.P) hR hfr hc (hρ s) (hρ x) (ty := o.type) h1 h2 k1 k2
      have e : (execOp ρ o).run C.P w = .ok (.value u) w' := by
        obtain ⟨dst, op, oty, pos, after, guard⟩ := o
        simp only at hop q1
        subst hop
        simp [execOp, resolve, invoke, builtin, q1]
      rw [e]
      exact ⟨im, φ', q2⟩
    · cases he
  · -- store
    rename_i t a x hop
    simp only [Option.map_eq_some_iff] at he
    obtain ⟨⟨id, ob⟩, hs, e⟩ := he
    cases e
    refine ⟨Nat.le_refl _, fun _ => ?_⟩
    obtain ⟨w', q1, q2⟩ := opS_sim (n := n) hρ hR o hs
    rw [q1]
    exact ⟨im, φ, q2⟩
  · -- m[k] = v
    rename_i t m k x hop
    simp only [Option.map_eq_some_iff] at he
    obtain ⟨⟨id, ob⟩, hs, e⟩ := he
    cases e
    refine ⟨Nat.le_refl _, fun _ => ?_⟩
    obtain ⟨w', q1, q2⟩ := mapUpd_sim (P := C.P) hR (hρ m) (hρ k) (hρ x) hs n
    have e : (execOp ρ o).run C.P w = .ok .skip w' := by
      obtain ⟨dst, op, oty, pos, after, guard⟩ := o
      simp only at hop
      subst hop
      simp [execOp, q1]
    rw [e]
    exact ⟨im, φ, q2⟩
  · split at he
    · rename_i hp
      cases he
      refine ⟨Nat.le_refl _, fun _ => ?_⟩
      obtain ⟨u, q1, q2⟩ := opP_sim (P := C.P) hρ o hp
      rw [q1]
      exact ⟨im, φ, .refl hR q2⟩
    · split at he
      · rename_i hp
        cases he
        refine ⟨Nat.le_refl _, fun _ => ?_⟩
        obtain ⟨u, q1, q2⟩ := opR_sim (P := C.P) hρ hR o hp
        rw [q1]
        exact ⟨im, φ, .refl hR q2⟩
      · split at he
        · rename_i ob hp
          cases he
          refine ⟨Nat.le_succ _, fun hfr => ?_⟩
          obtain ⟨u, w', φ', q1, q2⟩ := opN_sim (P := C.P) hρ hR o (hfr n (Nat.le_refl _) (Nat.lt_succ_self _)) hp
          rw [q1]
          exact ⟨im, φ', q2⟩
        · cases he

/-- One operation, at an activation. -/
theorem opE_sim {C : Ctx} (hT : TabOK C) (hgl : GlOK C.gl im w) (hR : Rel im w φ h) {env : Nat → AV} {a : Act} (hE : EnvOK im w φ env a) (o : Oper) (hg : goodOp o = true) {dr : Bool} {n ch : Nat} {v : AV} {ws : List (Nat × AO)} {n' ch' : Nat}
    (he : opE C dr (evA C.gl env) o n h ch = some (v, ws, n', ch')) : n ≤ n' ∧ ((∀ id, n ≤ id → id < n' → φ id = none) →
    Ends C.P (fun u w' => ∃ im' φ', Out im w φ n n' (updW h ws) v im' w' φ' u) ((execOp a.eval o).run C.P w)) := by
  rw [← good_exec hg]
  exact opE_sim' hT hgl hR (goodV_V hE hgl) o he
end
end Go.Pv
