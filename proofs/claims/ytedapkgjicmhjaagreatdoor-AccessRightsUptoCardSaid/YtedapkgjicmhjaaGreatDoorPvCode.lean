/- A part of the proof that AccessRights returns true wherever its input is of bulk at most 1048576: what the functions that it reaches answer. No theorem of the claim stands here. -/
import Derived.Test.YtedapkgjicmhjaaGreatDoorPvRegC
namespace Go.Pv
open Go Go.RowKit
set_option linter.unusedSimpArgs false
set_option linter.unusedVariables false

theorem regOK_mono {nt nt' : Nat} {ops : Array Oper} (h : regOK nt ops = true) (hn : nt ≤ nt') : regOK nt' ops = true := by
  simp only [regOK, Bool.and_eq_true] at h ⊢
  refine ⟨Array.all_eq_true_iff_forall_mem.2 fun o ho => ?_, h.2⟩
  have := Array.all_eq_true_iff_forall_mem.1 h.1 o ho
  simp only [Bool.and_eq_true] at this ⊢
  refine ⟨this.1, ?_⟩
  have h2 := this.2
  revert h2
  cases o.dst with
  | none => exact fun q => q
  | some d => simp only [decide_eq_true_eq]; exact fun q => Nat.lt_of_lt_of_le q hn

/-- A loop of which it is known that it ends. -/
theorem wp_loop_n {P : Program} {Q : Exit → Act → World → Prop} {c : Code} (I : Nat → Act → World → Prop) {n : Nat} {a : Act} {w : World} (h₀ : I n a w)
    (round : ∀ n a w, I n a w → c.wp P (Exit.then (fun a' w' => ∃ n', n' < n ∧ I n' a' w') Q) a w) : (Code.loop c).wp P Q a w := by
  intro b k cs
  have key : ∀ n a w, I n a w → ∃ e a' w', Q e a' w' ∧ Arrives P (lone (b.at a (.code c :: .inLoop c :: k)) cs w) b k cs e a' w' := by
    intro n
    induction n using Nat.strongRecOn with
    | _ n ih =>
      intro a w hI
      obtain ⟨e, a₁, w₁, hq, harr⟩ := round n a w hI b (.inLoop c :: k) cs
      cases e with
      | normal =>
        obtain ⟨n', hlt, hI₁⟩ := hq
        obtain ⟨e₂, a₂, w₂, hq₂, harr₂⟩ := ih n' hlt a₁ w₁ hI₁
        exact ⟨e₂, a₂, w₂, hq₂, .of_steps (Steps.trans harr (.one step_inLoop)) harr₂⟩
      | exit id => exact ⟨_, a₁, w₁, hq, .pass (x := .inLoop c) rfl (fun _ _ => .inl (by simp)) harr⟩
      | goto l => exact ⟨_, a₁, w₁, hq, .pass (x := .inLoop c) rfl (fun _ _ => .inl (by simp)) harr⟩
      | ret => exact ⟨_, a₁, w₁, hq, .pass (x := .inLoop c) rfl (fun _ _ => .inl (by simp)) harr⟩
      | panic ch => exact ⟨_, a₁, w₁, hq, .pass (x := .inLoop c) rfl (fun _ _ => .inl (by simp)) harr⟩
      | outgrown => exact ⟨_, a₁, w₁, hq, .pass (x := .inLoop c) rfl (fun _ _ => .inl (by simp)) harr⟩
  obtain ⟨e, a', w', hq, harr⟩ := key n a w h₀
  exact ⟨e, a', w', hq, .of_steps (.one step_loop) harr⟩

def exOf : Ex → Exit
  | .normal => .normal
  | .exit id => .exit id
  | .ret => .ret

theorem regRun_n {C : Ctx} (hT : TabOK C) {ops : Array Oper} {s s' : S} (h : regRun C ops s = some s') : s.n ≤ s'.n := by
  unfold regRun at h
  split at h
  · rename_i rs s1 hrec
    split at h
    · cases h
      exact (opsRec_spec hT _ _ _ _ _ hrec).2.2.2.2.2.2.1
    · cases h
  · cases h
theorem iter_n {f : S → Option (Ex × S)} (hf : ∀ s s' e, f s = some (e, s') → s.n ≤ s'.n) : ∀ (k : Nat) (s s' : S) (e : Ex), iter f k s = some (e, s') → s.n ≤ s'.n := by
  intro k
  induction k with
  | zero => intro s s' e h; simp [iter] at h
  | succ k ih =>
    intro s s' e h
    rw [iter] at h
    cases hc : f s with
    | none => rw [hc] at h; cases h
    | some p =>
      obtain ⟨e1, s1⟩ := p
      have h1 := hf _ _ _ hc
      rw [hc] at h
      cases e1 with
      | normal => exact Nat.le_trans h1 (ih _ _ _ h)
      | exit i => cases h; exact h1
      | ret => cases h; exact h1
theorem run_n {C : Ctx} (hT : TabOK C) : ∀ (c : Code) (s s' : S) (e : Ex), run C c s = some (e, s') → s.n ≤ s'.n := by
  intro c
  induction c with
  | skip => intro s s' e h; simp only [run] at h; cases h; exact Nat.le_refl _
  | label l => intro s s' e h; simp only [run] at h; cases h; exact Nat.le_refl _
  | region id ops dr =>
    intro s s' e h
    cases dr with
    | false =>
      simp only [run, Option.map_eq_some_iff] at h
      obtain ⟨s1, h1, e1⟩ := h
      cases e1
      exact opsRun_n hT _ _ _ h1
    | true =>
      simp only [run, Option.map_eq_some_iff] at h
      obtain ⟨s1, h1, e1⟩ := h
      cases e1
      exact regRun_n hT h1
  | seq x y ihx ihy =>
    intro s s' e h
    simp only [run] at h
    cases hx : run C x s with
    | none => rw [hx] at h; cases h
    | some p =>
      obtain ⟨e1, s1⟩ := p
      have h1 := ihx _ _ _ hx
      rw [hx] at h
      cases e1 with
      | normal => exact Nat.le_trans h1 (ihy _ _ _ h)
      | exit i => cases h; exact h1
      | ret => cases h; exact h1
  | cond c x y ihx ihy =>
    intro s s' e h
    simp only [run] at h
    split at h
    · exact ihx _ _ _ h
    · exact ihy _ _ _ h
    · cases h
  | block id c ih =>
    intro s s' e h
    simp only [run] at h
    cases hx : run C c s with
    | none => rw [hx] at h; cases h
    | some p =>
      obtain ⟨e1, s1⟩ := p
      have h1 := ih _ _ _ hx
      rw [hx] at h
      cases e1 with
      | normal => cases h; exact h1
      | exit i =>
        simp only at h
        split at h <;> (cases h; exact h1)
      | ret => cases h; exact h1
  | loop c ih =>
    intro s s' e h
    simp only [run] at h
    obtain ⟨k, hk⟩ := iter_of_loopLim h
    exact iter_n (fun s s' e h => ih s s' e h) _ _ _ _ hk
  | exit id => intro s s' e h; simp only [run] at h; cases h; exact Nat.le_refl _
  | scope c ih => intro s s' e h; simp only [run] at h; exact ih _ _ _ h
  | ret => intro s s' e h; simp only [run] at h; cases h; exact Nat.le_refl _
  | _ => intro s s' e h; simp [run] at h

theorem run_sim {C : Ctx} (hT : TabOK C) (hm : C.P.follows .mixedOrders = true) {im0 w0 φ0 n0 a0} {N : Nat} (hl : Free φ0 n0 N) {nt : Nat} (hnt : nt ≤ a0.tmps.size) : ∀ (c : Code), codeOK nt c = true → ∀ (s s' : S) (e : Ex) (im : Nat → Prop) (w : World) (φ : Phi) (a : Act) (Q : Exit → Act → World → Prop),
    run C c s = some (e, s') → s'.n ≤ N → At C im0 w0 φ0 n0 a0 s.env s.n s.h im w φ a →
    (∀ im' w' φ' a', At C im0 w0 φ0 n0 a0 s'.env s'.n s'.h im' w' φ' a' → Q (exOf e) a' w') → c.wp C.P Q a w := by
  intro c
  induction c with
  | skip => intro _ s s' e im w φ a Q hr hN h0 hQ; simp only [run] at hr; cases hr; exact wp_skip (hQ _ _ _ _ h0)
  | label l => intro _ s s' e im w φ a Q hr hN h0 hQ; simp only [run] at hr; cases hr; exact wp_label (hQ _ _ _ _ h0)
  | region id ops dr =>
    intro hok s s' e im w φ a Q hr hN h0 hQ
    cases dr with
    | false =>
      simp only [run, Option.map_eq_some_iff] at hr
      obtain ⟨s1, h1, e1⟩ := hr
      cases e1
      exact region_sim hT hl (regOK_mono hok hnt) h1 hN h0 hQ
    | true =>
      simp only [run, Option.map_eq_some_iff] at hr
      obtain ⟨s1, h1, e1⟩ := hr
      cases e1
      simp only [codeOK, Bool.and_eq_true] at hok
      exact draw_sim hT hm hl (regOK_mono hok.1 hnt) hok.2 h1 hN h0 hQ
  | seq x y ihx ihy =>
    intro hok s s' e im w φ a Q hr hN h0 hQ
    simp only [codeOK, Bool.and_eq_true] at hok
    refine wp_seq ?_
    simp only [run] at hr
    cases hx : run C x s with
    | none => rw [hx] at hr; cases hr
    | some p =>
      obtain ⟨e1, s1⟩ := p
      rw [hx] at hr
      have hle : s1.n ≤ s'.n := by
        cases e1 with
        | normal => exact run_n hT _ _ _ _ hr
        | exit i => cases hr; exact Nat.le_refl _
        | ret => cases hr; exact Nat.le_refl _
      refine ihx hok.1 s s1 e1 im w φ a _ hx (Nat.le_trans hle hN) h0 fun im' w' φ' a' hA => ?_
      cases e1 with
      | normal => exact ihy hok.2 s1 s' e im' w' φ' a' Q hr hN hA hQ
      | exit i => cases hr; exact hQ _ _ _ _ hA
      | ret => cases hr; exact hQ _ _ _ _ hA
  | cond c x y ihx ihy =>
    intro hok s s' e im w φ a Q hr hN h0 hQ
    simp only [codeOK, Bool.and_eq_true] at hok
    have hV := goodV_V h0.env h0.gl c
    have hge : goodV a c = a.eval c := by simp [goodV, hok.1.1]
    rw [hge] at hV
    simp only [run] at hr
    split at hr
    · rename_i hc
      rw [hc] at hV
      generalize hae : a.eval c = u at hV
      cases hV
      exact wp_cond_true hae (ihx hok.1.2 s s' e im w φ a Q hr hN h0 hQ)
    · rename_i hc
      rw [hc] at hV
      generalize hae : a.eval c = u at hV
      cases hV
      exact wp_cond_false hae (ihy hok.2 s s' e im w φ a Q hr hN h0 hQ)
    · cases hr
  | block id c ih =>
    intro hok s s' e im w φ a Q hr hN h0 hQ
    refine wp_block ?_
    simp only [run] at hr
    cases hc : run C c s with
    | none => rw [hc] at hr; cases hr
    | some p =>
      obtain ⟨e1, s1⟩ := p
      rw [hc] at hr
      have hle : s1.n ≤ s'.n := by
        cases e1 with
        | normal => cases hr; exact Nat.le_refl _
        | exit i =>
          simp only at hr
          split at hr <;> (cases hr; exact Nat.le_refl _)
        | ret => cases hr; exact Nat.le_refl _
      refine ih hok s s1 e1 im w φ a _ hc (Nat.le_trans hle hN) h0 fun im' w' φ' a' hA => ?_
      cases e1 with
      | normal => cases hr; exact hQ _ _ _ _ hA
      | exit i =>
        simp only at hr
        simp only [exOf, Exit.inBlock]
        split at hr
        · rename_i hi; cases hr; rw [if_pos hi]; exact hQ _ _ _ _ hA
        · rename_i hi; cases hr; rw [if_neg hi]; exact hQ _ _ _ _ hA
      | ret => cases hr; exact hQ _ _ _ _ hA
  | loop c ih =>
    intro hok s s' e im w φ a Q hr hN h0 hQ
    simp only [run] at hr
    obtain ⟨k, hk⟩ := iter_of_loopLim hr
    refine wp_loop_n (fun n a w => ∃ s im φ, iter (run C c) n s = some (e, s') ∧ At C im0 w0 φ0 n0 a0 s.env s.n s.h im w φ a) ⟨s, im, φ, hk, h0⟩ ?_
    rintro n a1 w1 ⟨s1, im1, φ1, hi, hA⟩
    cases n with
    | zero => simp [iter] at hi
    | succ n =>
      rw [iter] at hi
      cases hc : run C c s1 with
      | none => rw [hc] at hi; cases hi
      | some p =>
        obtain ⟨e1, s2⟩ := p
        rw [hc] at hi
        have hle : s2.n ≤ s'.n := by
          cases e1 with
          | normal => exact iter_n (fun s s' e h => run_n hT c s s' e h) _ _ _ _ hi
          | exit i => cases hi; exact Nat.le_refl _
          | ret => cases hi; exact Nat.le_refl _
        refine ih hok s1 s2 e1 im1 w1 φ1 a1 _ hc (Nat.le_trans hle hN) hA fun im' w' φ' a' hA' => ?_
        cases e1 with
        | normal => exact ⟨n, Nat.lt_succ_self _, s2, im', φ', hi, hA'⟩
        | exit i => cases hi; exact hQ _ _ _ _ hA'
        | ret => cases hi; exact hQ _ _ _ _ hA'
  | exit id => intro _ s s' e im w φ a Q hr hN h0 hQ; simp only [run] at hr; cases hr; exact wp_exit (hQ _ _ _ _ h0)
  | scope c ih =>
    intro hok s s' e im w φ a Q hr hN h0 hQ
    refine wp_scope_straight ?_
    simp only [run] at hr
    refine ih hok s s' e im w φ a _ hr hN h0 fun im' w' φ' a' hA => ?_
    cases e <;> exact hQ _ _ _ _ hA
  | ret => intro _ s s' e im w φ a Q hr hN h0 hQ; simp only [run] at hr; cases hr; exact wp_ret (hQ _ _ _ _ h0)
  | _ => intro _ s s' e im w φ a Q hr; simp [run] at hr

/-! ### what is handed back -/
section
variable {P : Program} {im : Nat → Prop} {w : World} {φ : Phi} {h : Hp}
def resM (tmps : Array Value) : ResultVar → Sem Value
  | .tmp t => pure (tmps.getD t undef)
  | .cell a t => do loadVar t (← asAddr (tmps.getD a undef))
theorem results_eq (fn : Func) (tmps : Array Value) : results fn tmps = (do
    let vs ← fn.results.mapM (resM tmps)
    pure (if h : vs.size = 1 then vs[0] else .tuple vs)) := by
  unfold results
  congr 1
theorem resV_sim (hR : Rel im w φ h) {env : Nat → AV} {a : Act} (hE : EnvOK im w φ env a) {r : ResultVar} {v : AV} (hv : resV P env h r = some v) :
    ∃ u, (resM a.tmps r).run P w = .ok u w ∧ V im w φ v u := by
  cases r with
  | tmp t => simp only [resV] at hv; cases hv; exact ⟨_, rfl, hE t⟩
  | cell x t =>
    simp only [resV] at hv
    have hV := hE x
    split at hv
    · rename_i id i o hx
      rw [hx] at hV
      generalize hu : a.tmps.getD x undef = u at hV
      cases hV with
      | ptr _ _ _ m hm =>
        split at hv
        · rename_i es fr hid
          split at hv
          · rename_i e he
            have hO := hR.obj id m hm
            rw [hid] at hO
            obtain ⟨u', h1, h2⟩ := row_load (P := P) hO he hv
            exact ⟨u', by rw [resM, hu]; simp only [asAddr, Sem.run_bind, Sem.run_pure, Result.andThen_ok, h1], h2⟩
          · cases hv
        · cases hv
    · cases hv
theorem results_list (hR : Rel im w φ h) {env : Nat → AV} {a : Act} (hE : EnvOK im w φ env a) : ∀ (rs : List ResultVar) (vs : List AV), resVs P env h rs = some vs →
    ∃ us, (rs.mapM (resM a.tmps)).run P w = .ok us w ∧ VL im w φ vs us := by
  intro rs
  induction rs with
  | nil => intro vs hv; simp only [resVs] at hv; cases hv; exact ⟨[], by simp, VL.nil⟩
  | cons r rs ih =>
    intro vs hv
    simp only [resVs] at hv
    split at hv
    · rename_i v vs' h1 h2
      cases hv
      obtain ⟨u, k1, k2⟩ := resV_sim hR hE h1
      obtain ⟨us, k3, k4⟩ := ih _ h2
      refine ⟨u :: us, ?_, .cons k2 k4⟩
      rw [List.mapM_cons]
      simp only [Sem.run_bind, k1, k3, Result.andThen_ok, Sem.run_pure]
    · cases hv
theorem results_sim (hR : Rel im w φ h) {env : Nat → AV} {a : Act} (hE : EnvOK im w φ env a) {fn : Func} {vs : List AV} (hv : resVs P env h fn.results.toList = some vs) :
    ∃ u, (results fn a.tmps).run P w = .ok u w ∧ V im w φ (packV vs) u := by
  obtain ⟨us, h1, h2⟩ := results_list hR hE _ _ hv
  have e : (results fn a.tmps).run P w = .ok (if h : us.toArray.size = 1 then us.toArray[0] else .tuple us.toArray) w := by
    rw [results_eq, Array.mapM_eq_mapM_toList]
    simp only [Sem.run_bind, Sem.run_map, bind_map_left, h1, Result.andThen_ok, Sem.run_pure]
  refine ⟨_, e, ?_⟩
  cases vs with
  | nil =>
    have : us = [] := List.length_eq_zero_iff.1 h2.1
    subst this
    simpa [packV] using V.of_listT h2
  | cons v r =>
    cases r with
    | nil =>
      cases us with
      | nil => have := h2.1; simp at this
      | cons u r2 =>
        have : r2 = [] := by have := h2.1; simpa using this
        subst this
        simpa [packV] using h2.head
    | cons v2 r =>
      have hl := h2.1
      simp only [List.length_cons] at hl
      have : us.toArray.size ≠ 1 := by simp; omega
      rw [dif_neg this]
      exact V.of_listT h2
end

/-! ### a function of which the answer alone is kept -/
theorem callFunc_enter {P : Program} {f : FuncId} {fn : Func} {c : Code} (hf : P.funcs[f]? = some fn) (hb : fn.body = some c) (hn : (fn.name == "runtime.NumGoroutine") = false) (args : Array Value) (w : World) :
    (callFunc f args).run P w = .ok (.enter f args) w := by
  simp only [beq_eq_false_iff_ne] at hn
  simp [callFunc, hf, hb, hn]

theorem init_at {C : Ctx} {im : Nat → Prop} {w : World} {φ : Phi} {h : Hp} {n : Nat} (hR : Rel im w φ h) (hgl : GlOK C.gl im w) {args : List AV} {vals : List Value} (hA : VL im w φ args vals) (k : Nat) :
    At C im w φ n { tmps := vals.toArray ++ Array.replicate k undef, defers := [] } (initE args) n h im w φ { tmps := vals.toArray ++ Array.replicate k undef, defers := [] } := by
  refine ⟨hR, hgl, fun t => ?_, .refl _ _ _, .refl _ _, rfl, rfl⟩
  simp only [initE]
  by_cases ht : t < args.length
  · have := hA.2 t ht
    have hv : t < vals.length := by rw [hA.1]; exact ht
    simpa [Array.getElem?_append, hv, List.getD_eq_getElem?_getD] using this
  · have hv : ¬ t < vals.length := by rw [hA.1]; exact ht
    have e1 : args.getD t AV.no = .no := by simp [List.getD_eq_getElem?_getD, List.getElem?_eq_none (Nat.le_of_not_lt ht)]
    have e2 : (vals.toArray ++ Array.replicate k undef).getD t undef = undef := by
      simp only [Array.getD_eq_getD_getElem?, Array.getElem?_append, List.size_toArray, hv, if_false, Array.getElem?_replicate]
      split <;> rfl
    rw [e1, e2]
    exact V.no

theorem pure_of_run {C : Ctx} (hT : TabOK C) (hm : C.P.follows .mixedOrders = true) {f : FuncId} {fn : Func} {c : Code} (hf : C.P.funcs[f]? = some fn) (hb : fn.body = some c) (hn : (fn.name == "runtime.NumGoroutine") = false) (hok : codeOK fn.ntmps c = true) :
    PS C.P C.gl f (fnRun C c fn.results.toList) := by
  intro args v hv im w vals him hgl hA
  rw [callFunc_enter hf hb hn]
  simp only [Ends]
  have h0 : Rel im w phi0 (fun _ => AO.dead) := ⟨him, fun id m (hm : phi0 id = some m) => (by cases hm), fun id m (hm : phi0 id = some m) => (by cases hm), fun id id' m m' (hm : phi0 id = some m) => (by cases hm)⟩
  refine calls_of_wp hf hb ?_
  have hAt := init_at (C := C) (n := 0) h0 hgl hA (fn.ntmps - vals.length)
  have hsz : fn.ntmps ≤ ({ tmps := vals.toArray ++ Array.replicate (fn.ntmps - vals.length) undef, defers := [] } : Act).tmps.size := by simp; omega
  unfold fnRun at hv
  cases hr : run C c ⟨initE args, 0, fun _ => .dead, 0, []⟩ with
  | none => rw [hr] at hv; cases hv
  | some p =>
    obtain ⟨e, s⟩ := p
    rw [hr] at hv
    have hv' : e ≠ .exit 0 ∧ (∀ i, e ≠ .exit i) ∧ ∃ vs, resVs C.P s.env s.h fn.results.toList = some vs ∧ (snap s.h snapD (packV vs)).map (·.1) = some v := by
      cases e with
      | exit i => cases hv
      | normal =>
        simp only at hv
        split at hv
        · rename_i vs hvs; exact ⟨by simp, by simp, vs, hvs, hv⟩
        · cases hv
      | ret =>
        simp only at hv
        split at hv
        · rename_i vs hvs; exact ⟨by simp, by simp, vs, hvs, hv⟩
        · cases hv
    obtain ⟨_, hne, vs, hvs, hsn⟩ := hv'
    simp only [Option.map_eq_some_iff] at hsn
    obtain ⟨⟨v', ids⟩, hsn, e1⟩ := hsn
    simp only at e1
    subst e1
    have hsize : (vals.toArray).size = vals.length := by simp
    rw [hsize]
    refine run_sim hT hm (φ0 := phi0) (n0 := 0) (N := s.n) (fun id _ _ => rfl) hsz c hok _ s e im w phi0 _ _ hr (Nat.le_refl _) hAt fun im' w' φ' a' hA' => ?_
    obtain ⟨u, hu1, hu2⟩ := results_sim (fn := fn) hA'.rel hA'.env hvs
    have hdef : a'.defers = [] := hA'.defers
    have hpost : a'.defers = [] ∧ ∃ v, (results fn a'.tmps).run C.P w' = .ok v w' ∧ ∃ v_1, Ending.returned v = .returned v_1 ∧
        ∃ im'_1 : Nat → Prop, Below w.heap.size w w' ∧ (∀ b, im b → im'_1 b) ∧ (∀ b, im'_1 b → im b ∨ (w.heap.size ≤ b ∧ b < w'.heap.size)) ∧ V im'_1 w' phi0 v' v_1 := by
      refine ⟨hdef, u, hu1, u, rfl, Fz im' φ' ids, ⟨hA'.grow.os, hA'.grow.tape, hA'.grow.output, hA'.grow.size, fun k hk => hA'.grow.keep k hk fun id m hm => by cases hm⟩, fun b hb => .inl (hA'.grow.imle b hb), fun b hb => ?_, ?_⟩
      · rcases hb with hb | ⟨id, _, m, hm, e⟩
        · rcases hA'.grow.imn b hb with q | q | ⟨id, m, hm, _⟩
          · exact .inl q
          · exact .inr ⟨q, hA'.rel.imlt b hb⟩
          · cases hm
        · rcases hA'.grow.img id m hm with q | ⟨id0, m0, hm0, _⟩
          · exact .inr ⟨by omega, by rw [← e]; exact hA'.rel.lt id m hm⟩
          · cases hm0
      · exact snap_ok hA'.rel _ _ _ _ _ hsn hu2 _ (fun b hb => .inl hb) (fun id hid m hm => .inr ⟨id, hid, m, hm, rfl⟩)
    cases e with
    | exit i => exact absurd rfl (hne i)
    | normal => exact hpost
    | ret => exact hpost
end Go.Pv
