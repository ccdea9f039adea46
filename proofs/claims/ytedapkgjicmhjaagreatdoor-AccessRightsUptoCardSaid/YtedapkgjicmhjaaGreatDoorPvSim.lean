/- A part of the proof that AccessRights returns true wherever its input is of bulk at most 1048576: what the functions that it reaches answer. No theorem of the claim stands here. -/
import Derived.Test.YtedapkgjicmhjaaGreatDoorPvIter
namespace Go.Pv
open Go Go.RowKit
set_option linter.unusedSimpArgs false
set_option linter.unusedVariables false

/-- From s the code c comes to some end that Q knows. -/
def Sim (C : Ctx) (nt : Nat) (c : Code) (s : S) (Q : Ex → S → Prop) : Prop :=
  ∀ (im0 : Nat → Prop) (w0 : World) (φ0 : Phi) (n0 : Nat) (a0 : Act), (∀ N, Free φ0 n0 N) → nt ≤ a0.tmps.size → ∀ (im : Nat → Prop) (w : World) (φ : Phi) (a : Act) (Qc : Exit → Act → World → Prop),
    At C im0 w0 φ0 n0 a0 s.env s.n s.h im w φ a → (∀ e s', Q e s' → ∀ im' w' φ' a', At C im0 w0 φ0 n0 a0 s'.env s'.n s'.h im' w' φ' a' → Qc (exOf e) a' w') → c.wp C.P Qc a w

theorem Sim.of_run {C : Ctx} (hT : TabOK C) (hm : C.P.follows .mixedOrders = true) {nt : Nat} {c : Code} {s s' : S} {e : Ex} {Q : Ex → S → Prop} (hok : codeOK nt c = true) (hr : run C c s = some (e, s')) (hQ : Q e s') : Sim C nt c s Q :=
  fun im0 w0 φ0 n0 a0 hl hnt im w φ a Qc h0 hQc => run_sim hT hm (hl s'.n) hnt c hok s s' e im w φ a Qc hr (Nat.le_refl _) h0 (fun im' w' φ' a' hA => hQc e s' hQ im' w' φ' a' hA)
theorem Sim.of_runC {C : Ctx} (hT : TabOK C) (hm : C.P.follows .mixedOrders = true) {nt : Nat} {c : Code} {imp : FuncId → Bool} {cc : CC} {s s' : S} {e : Ex} {Q : Ex → S → Prop} (hok : codeOK nt c = true) (hc : comp imp C.P c = some cc) (hr : runC C cc s = some (e, s')) (hQ : Q e s') : Sim C nt c s Q :=
  .of_run hT hm hok (runC_ok _ _ hc _ _ hr) hQ
theorem Sim.mono {C : Ctx} {nt : Nat} {c : Code} {s : S} {Q Q' : Ex → S → Prop} (h : Sim C nt c s Q) (hq : ∀ e s', Q e s' → Q' e s') : Sim C nt c s Q' :=
  fun im0 w0 φ0 n0 a0 hl hnt im w φ a Qc h0 hQc => h im0 w0 φ0 n0 a0 hl hnt im w φ a Qc h0 fun e s' hs => hQc e s' (hq e s' hs)
theorem Sim.seq {C : Ctx} {nt : Nat} {x y : Code} {s : S} {Q : Ex → S → Prop} (h : Sim C nt x s fun e s' => match e with | .normal => Sim C nt y s' Q | e => Q e s') : Sim C nt (.seq x y) s Q := by
  intro im0 w0 φ0 n0 a0 hl hnt im w φ a Qc h0 hQc
  refine wp_seq ?_
  refine h im0 w0 φ0 n0 a0 hl hnt im w φ a _ h0 fun e s' hs im' w' φ' a' hA => ?_
  cases e with
  | normal => exact hs im0 w0 φ0 n0 a0 hl hnt im' w' φ' a' Qc hA hQc
  | exit i => exact hQc _ _ hs _ _ _ _ hA
  | ret => exact hQc _ _ hs _ _ _ _ hA
theorem Sim.scope {C : Ctx} {nt : Nat} {c : Code} {s : S} {Q : Ex → S → Prop} (h : Sim C nt c s Q) : Sim C nt (.scope c) s Q := by
  intro im0 w0 φ0 n0 a0 hl hnt im w φ a Qc h0 hQc
  refine wp_scope_straight ?_
  refine h im0 w0 φ0 n0 a0 hl hnt im w φ a _ h0 fun e s' hs im' w' φ' a' hA => ?_
  have := hQc e s' hs im' w' φ' a' hA
  cases e <;> exact this
theorem Sim.cond {C : Ctx} {nt : Nat} {c : Operand} {x y : Code} {s : S} {Q : Ex → S → Prop} {t : Bool} (hg : goodX c = true) (hc : evA C.gl s.env c = .bool t) (h : Sim C nt (if t then x else y) s Q) : Sim C nt (.cond c x y) s Q := by
  intro im0 w0 φ0 n0 a0 hl hnt im w φ a Qc h0 hQc
  have hV := goodV_V h0.env h0.gl c
  rw [show goodV a c = a.eval c by simp [goodV, hg], hc] at hV
  generalize hae : a.eval c = u at hV
  cases hV
  exact wp_cond hae (by cases t <;> exact h im0 w0 φ0 n0 a0 hl hnt im w φ a Qc h0 hQc)
theorem Sim.block {C : Ctx} {nt : Nat} {id : Nat} {c : Code} {s : S} {Q : Ex → S → Prop} (h : Sim C nt c s fun e s' => match e with | .exit i => if i = id then Q .normal s' else Q (.exit i) s' | e => Q e s') : Sim C nt (.block id c) s Q := by
  intro im0 w0 φ0 n0 a0 hl hnt im w φ a Qc h0 hQc
  refine wp_block ?_
  refine h im0 w0 φ0 n0 a0 hl hnt im w φ a _ h0 fun e s' hs im' w' φ' a' hA => ?_
  cases e with
  | normal => exact hQc _ _ hs _ _ _ _ hA
  | exit i =>
    simp only at hs
    simp only [exOf, Exit.inBlock]
    split at hs
    · rename_i hi; rw [if_pos hi]; exact hQc _ _ hs _ _ _ _ hA
    · rename_i hi; rw [if_neg hi]; exact hQc _ _ hs _ _ _ _ hA
  | ret => exact hQc _ _ hs _ _ _ _ hA
theorem Sim.loop {C : Ctx} {nt : Nat} {c : Code} {s : S} {Q : Ex → S → Prop} (I : Nat → S → Prop) {k : Nat} (h0 : I k s) (h : ∀ k s, I k s → Sim C nt c s fun e s' => match e with | .normal => ∃ k', k' < k ∧ I k' s' | e => Q e s') : Sim C nt (.loop c) s Q := by
  intro im0 w0 φ0 n0 a0 hl hnt im w φ a Qc hA0 hQc
  refine wp_loop_n (fun n a w => ∃ s im φ, I n s ∧ At C im0 w0 φ0 n0 a0 s.env s.n s.h im w φ a) ⟨s, im, φ, h0, hA0⟩ ?_
  rintro n a1 w1 ⟨s1, im1, φ1, hI, hA⟩
  refine h n s1 hI im0 w0 φ0 n0 a0 hl hnt im1 w1 φ1 a1 _ hA fun e s' hs im' w' φ' a' hA' => ?_
  cases e with
  | normal => obtain ⟨k', hk, hI'⟩ := hs; exact ⟨k', hk, s', im', φ', hI', hA'⟩
  | exit i => exact hQc _ _ hs _ _ _ _ hA'
  | ret => exact hQc _ _ hs _ _ _ _ hA'

/-- The operations of a region in the text's order, ranges over maps among them. -/
def opsSim (C : Ctx) (ops : Array Oper) : List Oper → S → (S → Prop) → Prop
  | [], s, Q => Q s
  | o :: r, s, Q =>
    if wantA ops s.env o then
      (∃ v ws n' ch', opE C false (evA C.gl s.env) o s.n s.h s.ch = some (v, ws, n', ch') ∧ opsSim C ops r ⟨putO s.env o.dst v, n', updW s.h ws, ch', s.lg⟩ Q) ∨
      (∃ t x kt et id es clock, o.op = .range t x ∧ C.P.underlying t = some (.map kt et) ∧ evA C.gl s.env x = .map id ∧ s.h id = .map es clock ∧
        opsSim C ops r ⟨putO s.env o.dst (.iter s.n), s.n + 1, upd s.h s.n (.iter (some id) clock [] clock), s.ch, s.lg⟩ Q) ∨
      (∃ it id m since seen es, o.op = .next it false ∧ evA C.gl s.env it = .iter id ∧ s.h id = .iter (some m) since seen since ∧ s.h m = .map es since ∧ (∀ e ∈ es, e.2.2 < since) ∧
        ((∀ e ∈ es, e.2.2 ∈ seen) → opsSim C ops r ⟨putO s.env o.dst (.tup [.bool false]), s.n, s.h, s.ch, s.lg⟩ Q) ∧
        (∀ e ∈ es, e.2.2 ∉ seen → opsSim C ops r ⟨putO s.env o.dst (.tup [.bool true, e.1, e.2.1]), s.n, upd s.h id (.iter (some m) since (seen ++ [e.2.2]) since), s.ch, s.lg⟩ Q)) ∨
      (∃ it id m since seen e es, o.op = .entry it ∧ evA C.gl s.env it = .iter id ∧ s.h id = .iter (some m) since (seen ++ [e.2.2]) since ∧ s.h m = .map es since ∧ e ∈ es ∧ (es.map (·.2.2)).Nodup ∧
        opsSim C ops r ⟨putO s.env o.dst (.tup [e.1, e.2.1]), s.n, s.h, s.ch, s.lg⟩ Q)
    else opsSim C ops r ⟨putO s.env o.dst .no, s.n, s.h, s.ch, s.lg⟩ Q

theorem opsSim_sim {C : Ctx} (hT : TabOK C) {im0 w0 φ0 n0 a0} (hl : ∀ N, Free φ0 n0 N) {ops : Array Oper} (hok : regOK a0.tmps.size ops = true) {Q : S → Prop} {Qc : Exit → Act → World → Prop} : ∀ (l : List Oper) (k : Nat), ops.toList.drop k = l → ∀ (s : S) (im : Nat → Prop) (w : World) (φ : Phi) (a : Act),
    opsSim C ops l s Q → At C im0 w0 φ0 n0 a0 s.env s.n s.h im w φ a →
    (∀ s', Q s' → ∀ im' w' φ' a', At C im0 w0 φ0 n0 a0 s'.env s'.n s'.h im' w' φ' a' → Qc .normal a' w') → wpOps C.P ops Qc (List.range' k l.length) a w := by
  intro l
  induction l with
  | nil =>
    intro k hk s im w φ a hr h0 hQ
    exact hQ s hr im w φ a h0
  | cons o r ih =>
    intro k hk s im w φ a hr h0 hQ
    have hok' : ops[k]? = some o := by
      have := congrArg List.head? hk
      simpa [List.head?_drop] using this
    have hk' : ops.toList.drop (k + 1) = r := by
      have := congrArg List.tail hk
      simpa [List.tail_drop] using this
    obtain ⟨g1, g2, g3⟩ := regOK_good hok hok'
    simp only [List.length_cons, List.range'_succ, wpOps, hok']
    rw [wanted_iff h0.env]
    simp only [opsSim] at hr
    have hρ := goodV_V h0.env h0.gl
    split at hr
    · rename_i hw
      rw [if_pos hw]
      left
      have hge := good_exec (a := a) g1
      rcases hr with ⟨v, ws, n', ch', he, hr⟩ | ⟨t, x, kt, et, id, es, clock, ho, ht, hx, hid, hr⟩ | ⟨it, id, m, since, seen, es, ho, hx, hid, hmm, hold, hr1, hr2⟩ | ⟨it, id, m, since, seen, e, es, ho, hx, hid, hmm, hem, hnd, hr⟩
      · obtain ⟨e1, e2⟩ := opE_sim hT h0.gl h0.rel h0.env o g1 he
        refine Ends.wp (e2 fun id h1 h2 => h0.fresh (hl n') id h1 h2) fun u w' ⟨im', φ', hO⟩ => ?_
        exact ih (k + 1) hk' _ im' w' φ' _ hr (h0.op g2 hO) hQ
      · have hV := hρ x
        rw [hx] at hV
        obtain ⟨u, w', φ', q1, q2⟩ := range_sim (P := C.P) h0.rel (h0.fresh (hl (s.n + 1)) s.n (Nat.le_refl _) (Nat.lt_succ_self _)) ht hid hV
        have he : (execOp a.eval o).run C.P w = .ok (.value u) w' := by
          rw [← hge]
          obtain ⟨dst, op, oty, pos, after, guard⟩ := o
          simp only at ho
          subst ho
          simp [execOp, q1]
        refine Ends.wp (R := fun u w' => Out im w φ s.n (s.n + 1) (upd s.h s.n (.iter (some id) clock [] clock)) (.iter s.n) im w' φ' u) (by rw [he]; exact q2) fun u w' hO => ?_
        exact ih (k + 1) hk' _ im w' φ' _ hr (h0.op g2 hO) hQ
      · have hV := hρ it
        rw [hx] at hV
        obtain ⟨u, w', q1, q2⟩ := next_sim (P := C.P) h0.rel s.n hid hmm hold hV o.type
        have he : (execOp a.eval o).run C.P w = .ok (.value u) w' := by
          rw [← hge]
          obtain ⟨dst, op, oty, pos, after, guard⟩ := o
          simp only at ho q1
          subst ho
          simp [execOp, q1]
        unfold Oper.wp
        rw [he, Oper.upon_value]
        rcases q2 with ⟨p1, p2⟩ | ⟨e, p1, p2, p3⟩
        · exact ih (k + 1) hk' _ im w' φ _ (hr1 p1) (h0.op g2 p2) hQ
        · exact ih (k + 1) hk' _ im w' φ _ (hr2 e p1 p2) (h0.op g2 p3) hQ
      · have hV := hρ it
        rw [hx] at hV
        obtain ⟨u, q1, q2⟩ := entry_sim (P := C.P) h0.rel s.n hid hmm hem hnd hV
        have he : (execOp a.eval o).run C.P w = .ok (.value u) w := by
          rw [← hge]
          obtain ⟨dst, op, oty, pos, after, guard⟩ := o
          simp only at ho
          subst ho
          simp [execOp, q1]
        unfold Oper.wp
        rw [he, Oper.upon_value]
        exact ih (k + 1) hk' _ im w φ _ hr (h0.op g2 (.refl (n := s.n) h0.rel q2)) hQ
    · rename_i hw
      rw [if_neg hw]
      exact ih (k + 1) hk' _ im w φ _ hr (h0.skip g2) hQ
theorem Sim.region {C : Ctx} (hT : TabOK C) {nt id : Nat} {ops : Array Oper} (hok : regOK nt ops = true) {s : S} {Q : Ex → S → Prop} (h : opsSim C ops ops.toList s (Q .normal)) : Sim C nt (.region id ops false) s Q := by
  intro im0 w0 φ0 n0 a0 hl hnt im w φ a Qc h0 hQc
  refine wp_region ?_
  have := opsSim_sim hT hl (regOK_mono hok hnt) (Qc := Qc) ops.toList 0 rfl s im w φ a h h0 fun s' hs im' w' φ' a' hA => hQc .normal s' hs im' w' φ' a' hA
  rw [List.range_eq_range']
  simpa using this

/-- A function's answer, by the judgement. -/
theorem pure_of_Sim {C : Ctx} {f : FuncId} {fn : Func} {c : Code} (hf : C.P.funcs[f]? = some fn) (hb : fn.body = some c) (hn : (fn.name == "runtime.NumGoroutine") = false) {G : List AV → Option AV}
    (hG : ∀ args v, G args = some v → Sim C fn.ntmps c ⟨initE args, 0, fun _ => .dead, 0, []⟩ fun e s => (∀ i, e ≠ .exit i) ∧ ∃ vs, resVs C.P s.env s.h fn.results.toList = some vs ∧ (snap s.h snapD (packV vs)).map (·.1) = some v) :
    PS C.P C.gl f G := by
  intro args v hv im w vals him hgl hA
  rw [callFunc_enter hf hb hn]
  simp only [Ends]
  have h0 : Rel im w phi0 (fun _ => AO.dead) := ⟨him, fun id m (hm : phi0 id = some m) => (by cases hm), fun id m (hm : phi0 id = some m) => (by cases hm), fun id id' m m' (hm : phi0 id = some m) => (by cases hm)⟩
  refine calls_of_wp hf hb ?_
  have hAt := init_at (C := C) (n := 0) h0 hgl hA (fn.ntmps - vals.length)
  have hsz : fn.ntmps ≤ ({ tmps := vals.toArray ++ Array.replicate (fn.ntmps - vals.length) undef, defers := [] } : Act).tmps.size := by simp; omega
  have hsize : (vals.toArray).size = vals.length := by simp
  rw [hsize]
  refine hG args v hv im w phi0 0 _ (fun N id _ _ => rfl) hsz im w phi0 _ _ hAt fun e s ⟨hne, vs, hvs, hsn⟩ im' w' φ' a' hA' => ?_
  simp only [Option.map_eq_some_iff] at hsn
  obtain ⟨⟨v', ids⟩, hsn, e1⟩ := hsn
  simp only at e1
  subst e1
  obtain ⟨u, hu1, hu2⟩ := results_sim (fn := fn) hA'.rel hA'.env hvs
  have hdef : a'.defers = [] := hA'.defers
  have hpost : a'.defers = [] ∧ ∃ v, (results fn a'.tmps).run C.P w' = .ok v w' ∧ ∃ v_1, Ending.returned v = .returned v_1 ∧
      ∃ im'_1 : Nat → Prop, Below w.heap.size w w' ∧ (∀ b, im b → im'_1 b) ∧ (∀ b, im'_1 b → im b ∨ (w.heap.size ≤ b ∧ b < w'.heap.size)) ∧ V im'_1 w' phi0 v' v_1 := by
    refine ⟨hdef, u, hu1, u, rfl, Fz im' φ' ids, ⟨hA'.grow.os, hA'.grow.tape, hA'.grow.output, hA'.grow.size, fun k hk => hA'.grow.keep k hk fun id m hm => by cases hm⟩, fun b hb => .inl (hA'.grow.imle b hb), fun b hb => ?_, ?_⟩
    · rcases hb with hb | ⟨id, _, m, hm, e⟩
      · rcases hA'.grow.imn b hb with q | q | ⟨id, m, hm, _⟩
        · exact .inl q
        · exact .inr ⟨q, hA'.rel.imlt b hb⟩
        · cases hm
      · rcases hA'.grow.img id m hm with q | ⟨id0, m0, hm0, _⟩
        · exact .inr ⟨by omega, by rw [← e]; exact hA'.rel.lt id m hm⟩
        · cases hm0
    · exact snap_ok hA'.rel _ _ _ _ _ hsn hu2 _ (fun b hb => .inl hb) (fun id hid m hm => .inr ⟨id, hid, m, hm, rfl⟩)
  cases e with
  | exit i => exact absurd rfl (hne i)
  | normal => exact hpost
  | ret => exact hpost
end Go.Pv
