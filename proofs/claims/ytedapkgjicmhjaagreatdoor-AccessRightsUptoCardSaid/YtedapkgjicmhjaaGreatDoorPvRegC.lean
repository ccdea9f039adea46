/- A part of the proof that AccessRights returns true wherever its input is of bulk at most 1048576: what the functions that it reaches answer. No theorem of the claim stands here. -/
import Derived.Test.YtedapkgjicmhjaaGreatDoorPvRegB
namespace Go.Pv
open Go Go.RowKit
set_option linter.unusedSimpArgs false
set_option linter.unusedVariables false

section
variable {im : Nat → Prop} {w : World} {φ : Phi} {h : Hp}

theorem wanted_iff {ops : Array Oper} {env : Nat → AV} {a : Act} (hE : EnvOK im w φ env a) (o : Oper) : Region.wanted o (yielded ops a.tmps) = wantA ops env o := by
  unfold Region.wanted wantA
  cases hg : o.guard with
  | none => rfl
  | some g =>
    obtain ⟨j, want⟩ := g
    simp only [yielded]
    cases ht : (ops[j]?).bind (·.dst) with
    | none => rfl
    | some t =>
      have hV := hE t
      simp only [Option.bind_some]
      cases hq : a.tmps[t]? with
      | none =>
        have e : a.tmps.getD t undef = undef := by simp [hq]
        rw [e] at hV
        generalize env t = x at hV
        cases hV; rfl
      | some u =>
        have e : a.tmps.getD t undef = u := by simp [hq]
        rw [e] at hV
        generalize env t = x at hV
        cases hV <;> simp

theorem put_size (a : Act) (d : Option Tmp) (v : Value) : (a.put d v).tmps.size = a.tmps.size := by cases d <;> simp [Act.put]
theorem put_defers (a : Act) (d : Option Tmp) (v : Value) : (a.put d v).defers = a.defers := by cases d <;> rfl
theorem EnvOK.grow {im' w' φ'} {env : Nat → AV} {a : Act} (hE : EnvOK im w φ env a) (g : Grow im w φ im' w' φ') : EnvOK im' w' φ' env a := fun t => g.V (hE t)
theorem EnvOK.put {env : Nat → AV} {a : Act} (hE : EnvOK im w φ env a) {d : Option Tmp} (hd : ∀ t, d = some t → t < a.tmps.size) {v : AV} {u : Value} (hV : V im w φ v u) : EnvOK im w φ (putO env d v) (a.put d u) := by
  intro t
  cases d with
  | none => exact hE t
  | some d =>
    simp only [putO, putE, Act.put]
    by_cases e : t = d
    · subst e
      have := hd t rfl
      simpa [this] using hV
    · rw [if_neg e]
      have := hE t
      simpa [Array.getElem?_setIfInBounds_ne (Ne.symm e)] using this

/-- What stands at a point of a walk: st for the world w and the activation a; since the start at w0, φ0 with numbers from n0. -/
structure At (C : Ctx) (im0 : Nat → Prop) (w0 : World) (φ0 : Phi) (n0 : Nat) (a0 : Act) (env : Nat → AV) (n : Nat) (h : Hp) (im : Nat → Prop) (w : World) (φ : Phi) (a : Act) : Prop where
  rel : Rel im w φ h
  gl : GlOK C.gl im w
  env : EnvOK im w φ env a
  grow : Grow im0 w0 φ0 im w φ
  dom : Dom φ0 φ n0 n
  defers : a.defers = a0.defers
  size : a.tmps.size = a0.tmps.size

theorem At.op {C : Ctx} {im0 w0 φ0 n0 a0} {env : Nat → AV} {n n' : Nat} {a : Act} (h0 : At C im0 w0 φ0 n0 a0 env n h im w φ a) {o : Oper} (hd : ∀ t, o.dst = some t → t < a0.tmps.size) {h' : Hp} {v : AV} {im' w' φ'} {u : Value}
    (ho : Out im w φ n n' h' v im' w' φ' u) : At C im0 w0 φ0 n0 a0 (putO env o.dst v) n' h' im' w' φ' (a.put o.dst u) :=
  ⟨ho.rel, h0.gl.grow ho.grow, (h0.env.grow ho.grow).put (fun t ht => by rw [h0.size]; exact hd t ht) ho.val, h0.grow.trans ho.grow, h0.dom.trans ho.dom, by rw [put_defers, h0.defers], by rw [put_size, h0.size]⟩

theorem At.skip {C : Ctx} {im0 w0 φ0 n0 a0} {env : Nat → AV} {n : Nat} {a : Act} (h0 : At C im0 w0 φ0 n0 a0 env n h im w φ a) {o : Oper} (hd : ∀ t, o.dst = some t → t < a0.tmps.size) : At C im0 w0 φ0 n0 a0 (putO env o.dst .no) n h im w φ (a.put o.dst undef) :=
  ⟨h0.rel, h0.gl, h0.env.put (fun t ht => by rw [h0.size]; exact hd t ht) V.no, h0.grow, h0.dom, by rw [put_defers, h0.defers], by rw [put_size, h0.size]⟩

/-- The numbers from n0 to N are free. -/
def Free (φ : Phi) (n0 N : Nat) : Prop := ∀ id, n0 ≤ id → id < N → φ id = none
theorem At.fresh {C : Ctx} {im0 w0 φ0 n0 a0} {env : Nat → AV} {n N : Nat} {a : Act} (h0 : At C im0 w0 φ0 n0 a0 env n h im w φ a) (hl : Free φ0 n0 N) (id : Nat) (h1 : n ≤ id) (h2 : id < N) : φ id = none := by
  cases e : φ id with
  | none => rfl
  | some m =>
    have hd := h0.dom.1
    rcases h0.dom.2 id m e with q | q
    · rw [hl id (by omega) h2] at q; cases q
    · omega
theorem opsRun_n {C : Ctx} (hT : TabOK C) {dr : Bool} {ops : Array Oper} : ∀ (l : List Oper) (s s' : S), opsRun C dr ops l s = some s' → s.n ≤ s'.n := by
  intro l
  induction l with
  | nil => intro s s' h; simp only [opsRun] at h; cases h; exact Nat.le_refl _
  | cons o r ih =>
    intro s s' h
    simp only [opsRun] at h
    split at h
    · split at h
      · rename_i he
        have h1 := opE_n hT o he
        have h2 := ih _ _ h
        exact Nat.le_trans h1 h2
      · cases h
    · have h2 := ih _ _ h
      exact h2

/-! ### a region in the text's order -/
theorem ops_sim {C : Ctx} (hT : TabOK C) {im0 w0 φ0 n0 a0} {N : Nat} (hl : Free φ0 n0 N) {ops : Array Oper} (hok : regOK a0.tmps.size ops = true) {Q : Exit → Act → World → Prop} : ∀ (l : List Oper) (k : Nat), ops.toList.drop k = l → ∀ (s s' : S) (im : Nat → Prop) (w : World) (φ : Phi) (a : Act),
    opsRun C false ops l s = some s' → s'.n ≤ N → At C im0 w0 φ0 n0 a0 s.env s.n s.h im w φ a →
    (∀ im' w' φ' a', At C im0 w0 φ0 n0 a0 s'.env s'.n s'.h im' w' φ' a' → Q .normal a' w') → wpOps C.P ops Q (List.range' k l.length) a w := by
  intro l
  induction l with
  | nil =>
    intro k hk s s' im w φ a hr hN h0 hQ
    simp only [opsRun] at hr
    cases hr
    exact hQ im w φ a h0
  | cons o r ih =>
    intro k hk s s' im w φ a hr hN h0 hQ
    have hok' : ops[k]? = some o := by
      have := congrArg List.head? hk
      simpa [List.head?_drop] using this
    have hk' : ops.toList.drop (k + 1) = r := by
      have := congrArg List.tail hk
      simpa [List.tail_drop] using this
    obtain ⟨g1, g2, g3⟩ := regOK_good hok hok'
    simp only [List.length_cons, List.range'_succ, wpOps, hok']
    rw [wanted_iff h0.env]
    simp only [opsRun] at hr
    split at hr
    · rename_i hw
      rw [if_pos hw]
      left
      split at hr
      · rename_i v ws n' ch' he
        obtain ⟨e1, e2⟩ := opE_sim hT h0.gl h0.rel h0.env o g1 he
        have hn' := opsRun_n hT _ _ _ hr
        refine Ends.wp (e2 fun id h1 h2 => h0.fresh hl id h1 (by simp only at hn'; omega)) fun u w' ⟨im', φ', ho⟩ => ?_
        exact ih (k + 1) hk' _ s' im' w' φ' _ hr hN (h0.op g2 ho) hQ
      · cases hr
    · rename_i hw
      rw [if_neg hw]
      exact ih (k + 1) hk' _ s' im w φ _ hr hN (h0.skip g2) hQ

theorem region_sim {C : Ctx} (hT : TabOK C) {im0 w0 φ0 n0 a0} {N : Nat} (hl : Free φ0 n0 N) {ops : Array Oper} (hok : regOK a0.tmps.size ops = true) {Q : Exit → Act → World → Prop} {id : Nat} {s s' : S} {a : Act}
    (hr : opsRun C false ops ops.toList s = some s') (hN : s'.n ≤ N) (h0 : At C im0 w0 φ0 n0 a0 s.env s.n s.h im w φ a)
    (hQ : ∀ im' w' φ' a', At C im0 w0 φ0 n0 a0 s'.env s'.n s'.h im' w' φ' a' → Q .normal a' w') : (Code.region id ops false).wp C.P Q a w := by
  refine wp_region ?_
  have := ops_sim hT hl hok (Q := Q) ops.toList 0 rfl s s' im w φ a hr hN h0 hQ
  rw [List.range_eq_range']
  simpa using this

/-! ### a region that draws -/
theorem fin_env : ∀ (l : List Rec) (x y : S), x.env = y.env → x.h = y.h → x.ch = y.ch → (fin l x).env = (fin l y).env ∧ (fin l x).h = (fin l y).h := by
  intro l
  induction l with
  | nil => intro x y e1 e2 e3; exact ⟨e1, e2⟩
  | cons q l ihl => intro x y e1 e2 e3; exact ihl _ _ (by simp [eff, e1]) (by simp [eff, e2]) e3
theorem runs_env {C : Ctx} {ops : Array Oper} : ∀ (l : List Rec) (x y : S), x.env = y.env → x.h = y.h → x.ch = y.ch → Runs C ops l x → Runs C ops l y := by
  intro l
  induction l with
  | nil => intro x y e1 e2 e3 _; trivial
  | cons q l ihl =>
    intro x y e1 e2 e3 hx
    refine ⟨?_, ihl (eff q x) (eff q y) (by simp [eff, e1]) (by simp [eff, e2]) e3 hx.2⟩
    have := hx.1
    unfold Does at this ⊢
    rw [← e1, ← e2, ← e3]; exact this
theorem opsRec_spec {C : Ctx} (hT : TabOK C) {ops : Array Oper} : ∀ (l : List Oper) (i : Nat) (s s' : S) (rs : List Rec), opsRec C ops l i s = some (rs, s') →
    Runs C ops rs s ∧ (fin rs s).env = s'.env ∧ (fin rs s).h = s'.h ∧ s'.ch = s.ch ∧ rs.map (·.o) = l ∧ rs.map (·.i) = List.range' i l.length ∧ s.n ≤ s'.n ∧ (∀ r ∈ rs, s.n ≤ r.b ∧ r.b ≤ r.e ∧ r.e ≤ s'.n) ∧ rs.Pairwise (fun a b => a.e ≤ b.b) := by
  intro l
  induction l with
  | nil => intro i s s' rs hr; simp only [opsRec] at hr; cases hr; simp [Runs, fin]
  | cons o r ih =>
    intro i s s' rs hr
    simp only [opsRec] at hr
    split at hr
    · rename_i hw
      split at hr
      · rename_i v ws n' ch' he
        split at hr
        · rename_i hch
          subst hch
          split at hr
          · rename_i rs1 s1 hr1
            cases hr
            obtain ⟨h1, h2, h3, h4, h5, h6, h7, h8, h9⟩ := ih _ _ _ _ hr1
            have hn := opE_n hT o he
            simp only at h7 h8
            refine ⟨⟨?_, runs_env rs1 ⟨putO s.env o.dst v, n', updW s.h ws, s.ch, s.lg ++ ws⟩ _ rfl rfl rfl h1⟩, ?_, ?_, h4, by simp [h5], by simp [h6, List.range'_succ], by omega, ?_, ?_⟩
            · unfold Does
              simp only [if_true]
              exact ⟨hw, he, trivial⟩
            · rw [← h2]; exact (fin_env rs1 (eff _ s) ⟨putO s.env o.dst v, n', updW s.h ws, s.ch, s.lg ++ ws⟩ rfl rfl rfl).1
            · rw [← h3]; exact (fin_env rs1 (eff _ s) ⟨putO s.env o.dst v, n', updW s.h ws, s.ch, s.lg ++ ws⟩ rfl rfl rfl).2
            · intro q hq
              rcases List.mem_cons.1 hq with rfl | hq
              · exact ⟨Nat.le_refl _, hn, h7⟩
              · have := h8 q hq; omega
            · refine List.Pairwise.cons (fun q hq => (h8 q hq).1) h9
          · cases hr
        · cases hr
      · cases hr
    · rename_i hw
      split at hr
      · rename_i rs1 s1 hr1
        cases hr
        obtain ⟨h1, h2, h3, h4, h5, h6, h7, h8, h9⟩ := ih _ _ _ _ hr1
        simp only at h7 h8
        refine ⟨⟨?_, h1⟩, h2, h3, h4, by simp [h5], by simp [h6, List.range'_succ], h7, ?_, ?_⟩
        · unfold Does
          simp only [Bool.false_eq_true, if_false]
          exact ⟨by simpa using hw, trivial, trivial, trivial, trivial⟩
        · intro q hq
          rcases List.mem_cons.1 hq with rfl | hq
          · exact ⟨Nat.le_refl _, Nat.le_refl _, h7⟩
          · exact h8 q hq
        · exact List.Pairwise.cons (fun q hq => (h8 q hq).1) h9
      · cases hr

/-- What stands in the middle of a drawn region. -/
structure AtD (C : Ctx) (im0 : Nat → Prop) (w0 : World) (φ0 : Phi) (n0 n1 : Nat) (a0 : Act) (rs : List Rec) (s : S) (im : Nat → Prop) (w : World) (φ : Phi) (a : Act) : Prop where
  rel : Rel im w φ s.h
  gl : GlOK C.gl im w
  env : EnvOK im w φ s.env a
  grow : Grow im0 w0 φ0 im w φ
  dom : Dom φ0 φ n0 n1
  defers : a.defers = a0.defers
  size : a.tmps.size = a0.tmps.size
  fresh : ∀ r ∈ rs, ∀ id, r.b ≤ id → id < r.e → φ id = none

theorem dom_wide {φ φ' : Phi} {n n' m m' : Nat} (d : Dom φ φ' n n') (h1 : m ≤ n) (h2 : n' ≤ m') : Dom φ φ' m m' := ⟨by have := d.1; omega, fun id x h => (d.2 id x h).imp (fun q => q) fun q => by omega⟩

theorem any_sim {C : Ctx} (hT : TabOK C) {im0 w0 φ0 n0 n1 a0} {ops : Array Oper} (hok : regOK a0.tmps.size ops = true) (hdr : drawOK ops = true) {Q : Exit → Act → World → Prop} : ∀ (fuel : Nat) (listed : Array Bool) (rs : List Rec) (s : S) (im : Nat → Prop) (w : World) (φ : Phi) (a : Act),
    rs.length = fuel → (∀ k, k < ops.size → (listed.getD k true = false ↔ ∃ r ∈ rs, r.i = k)) → listed.size = ops.size → (∀ r ∈ rs, ops[r.i]? = some r.o) →
    (∀ k o, ops[k]? = some o → listed.getD k false = true → ∀ p ∈ preds o, listed.getD p false = true) →
    rs.Pairwise (fun x y => x.i < y.i) → rs.Pairwise (fun x y => ancB ops x.i y.i = true ∨ indH x y = true) → rs.Pairwise (fun x y => x.e ≤ y.b) → (∀ r ∈ rs, n0 ≤ r.b ∧ r.b ≤ r.e ∧ r.e ≤ n1) →
    Runs C ops rs s → AtD C im0 w0 φ0 n0 n1 a0 rs s im w φ a →
    (∀ im' w' φ' a', AtD C im0 w0 φ0 n0 n1 a0 [] (fin rs s) im' w' φ' a' → Q .normal a' w') → wpAny C.P .any ops Q fuel listed a w := by
  intro fuel
  induction fuel with
  | zero =>
    intro listed rs s im w φ a hlen hmem hsz hops hdc hsort hind hdis hrng hruns h0 hQ
    have : rs = [] := List.length_eq_zero_iff.1 hlen
    subst this
    refine ⟨?_, hQ _ _ _ _ h0⟩
    rw [List.eq_nil_iff_forall_not_mem]
    intro k hk
    obtain ⟨h1, o, ho, _⟩ := mem_ready.1 hk
    obtain ⟨r, hr, _⟩ := (hmem k (Array.getElem?_eq_some_iff.1 ho).1).1 h1
    simp at hr
  | succ fuel ih =>
    intro listed rs s im w φ a hlen hmem hsz hops hdc hsort hind hdis hrng hruns h0 hQ
    have hlt : ∀ r ∈ rs, r.i < ops.size := fun r hr => (Array.getElem?_eq_some_iff.1 (hops r hr)).1
    have hunl : ∀ r ∈ rs, listed.getD r.i true = false := fun r hr => (hmem r.i (hlt r hr)).2 ⟨r, hr, rfl⟩
    have hboth : ∀ k, k < ops.size → listed.getD k true = listed.getD k false := fun k hk => by simp [hsz, hk]
    refine ⟨fun hnone => ?_, fun i hi => ?_⟩
    · -- something is ready
      exfalso
      cases rs with
      | nil => simp at hlen
      | cons r l =>
        have hr := hops r (by simp)
        obtain ⟨g1, g2, g3⟩ := regOK_good hok hr
        have hin : r.i ∈ Region.ready .any ops listed := by
          refine mem_ready.2 ⟨hunl r (by simp), r.o, hr, fun e he hb => ?_⟩
          have hp : e.on ∈ preds r.o := List.mem_map.2 ⟨e, List.mem_filter.2 ⟨by simpa using he, hb⟩, rfl⟩
          have hlt' := g3 _ hp
          have hs : e.on < ops.size := by have := hlt r (by simp); omega
          rw [← hboth _ hs]
          cases hq : listed.getD e.on true with
          | true => rfl
          | false =>
            obtain ⟨q, hq1, hq2⟩ := (hmem _ hs).1 hq
            rcases List.mem_cons.1 hq1 with rfl | hq1
            · omega
            · have := (List.pairwise_cons.1 hsort).1 q hq1
              omega
        rw [hnone] at hin
        simp at hin
    · obtain ⟨h1, o, ho, hpred⟩ := mem_ready.1 hi
      have hisz := (Array.getElem?_eq_some_iff.1 ho).1
      obtain ⟨r, hr, hri⟩ := (hmem i hisz).1 h1
      subst hri
      have : o = r.o := by have := hops r hr; rw [ho] at this; cases this; rfl
      subst this
      obtain ⟨g1, g2, g3⟩ := regOK_good hok ho
      have hpl : ∀ p ∈ preds r.o, listed.getD p false = true := fun p hp => by
        obtain ⟨e, he, rfl⟩ := List.mem_map.1 hp
        obtain ⟨he1, he2⟩ := List.mem_filter.1 he
        exact hpred e (by simpa using he1) he2
      obtain ⟨A1, A2, hsplit⟩ := List.append_of_mem hr
      subst hsplit
      have hfree : ∀ x ∈ A1, x.o.apart ops r.o = true ∧ indH x r = true := fun x hx => by
        have hxr : x ∈ A1 ++ r :: A2 := by simp [hx]
        have hn : ancB ops x.i r.i = false := by
          cases hb : ancB ops x.i r.i with
          | false => rfl
          | true =>
            have := anc_listed hdc r.i r.o ho hpl hb
            rw [← hboth _ (hlt x hxr), hunl x hxr] at this
            cases this
        have hi' := (List.pairwise_append.1 hind).2.2 x hx r (by simp)
        rw [hn] at hi'
        exact ⟨drawOK_apart hdr (hops x hxr) ho ((List.pairwise_append.1 hsort).2.2 x hx r (by simp)) hn, by simpa using hi'⟩
      obtain ⟨b1, b2, b3⟩ := bubble A1 s hfree hruns
      have hdst : ∀ t, r.o.dst = some t → t < a.tmps.size := fun t ht => by rw [h0.size]; exact g2 t ht
      -- what is left
      have hsub : ∀ x ∈ A1 ++ A2, x ∈ A1 ++ r :: A2 := fun x hx => by
        rcases List.mem_append.1 hx with q | q <;> simp [q]
      have hsl : (A1 ++ A2).Sublist (A1 ++ r :: A2) := List.Sublist.append (List.Sublist.refl _) (List.sublist_cons_self _ _)
      have hne : ∀ x ∈ A1 ++ A2, x.i ≠ r.i ∧ (x.e ≤ r.b ∨ r.e ≤ x.b) := fun x hx => by
        rcases List.mem_append.1 hx with q | q
        · have h1 := (List.pairwise_append.1 hsort).2.2 x q r (by simp)
          have h2 := (List.pairwise_append.1 hdis).2.2 x q r (by simp)
          exact ⟨by omega, .inl h2⟩
        · have h1 := (List.pairwise_cons.1 (List.pairwise_append.1 hsort).2.1).1 x q
          have h2 := (List.pairwise_cons.1 (List.pairwise_append.1 hdis).2.1).1 x q
          exact ⟨by omega, .inr h2⟩
      have next : ∀ im' w' φ' a', AtD C im0 w0 φ0 n0 n1 a0 (A1 ++ A2) (eff r s) im' w' φ' a' → wpAny C.P .any ops Q fuel (listed.setIfInBounds r.i true) a' w' := by
        intro im' w' φ' a' hA
        refine ih (listed.setIfInBounds r.i true) (A1 ++ A2) (eff r s) im' w' φ' a' (by simp at hlen ⊢; omega) (fun k hk => ?_) (by simpa using hsz) (fun x hx => hops x (hsub x hx)) (fun k o' hko hkl p hp => ?_)
          (hsort.sublist hsl) (hind.sublist hsl) (hdis.sublist hsl) (fun x hx => hrng x (hsub x hx)) b2 hA (fun im2 w2 φ2 a2 h2 => hQ im2 w2 φ2 a2 (by rw [b3]; exact h2))
        · by_cases hkr : r.i = k
          · subst hkr
            constructor
            · intro q; simp [hsz, hisz] at q
            · rintro ⟨x, hx, e⟩; exact absurd e (hne x hx).1
          · rw [getD_set_ne true hkr, hmem k hk]
            constructor
            · rintro ⟨x, hx, e⟩
              refine ⟨x, ?_, e⟩
              rcases List.mem_append.1 hx with q | q
              · exact List.mem_append_left _ q
              · rcases List.mem_cons.1 q with rfl | q
                · exact absurd e hkr
                · exact List.mem_append_right _ q
            · rintro ⟨x, hx, e⟩; exact ⟨x, hsub x hx, e⟩
        · by_cases hkr : r.i = k
          · subst hkr
            rw [ho] at hko; cases hko
            exact getD_set_true (hpl p hp)
          · rw [getD_set_ne false hkr] at hkl
            exact getD_set_true (hdc k o' hko hkl p hp)
      unfold wpOp
      rw [ho]
      simp only
      rw [wanted_iff h0.env]
      unfold Does at b1
      split at b1
      · rename_i hw
        obtain ⟨c1, c2, c3⟩ := b1
        rw [c1]
        simp only [if_true]
        left
        obtain ⟨e1, e2⟩ := opE_sim hT h0.gl h0.rel h0.env r.o g1 c2
        refine Ends.wp (e2 (h0.fresh r hr)) fun u w' ⟨im', φ', hO⟩ => next im' w' φ' _ ?_
        have hr3 := hrng r hr
        refine ⟨hO.rel, h0.gl.grow hO.grow, (h0.env.grow hO.grow).put hdst hO.val, h0.grow.trans hO.grow, ⟨by have := h0.dom.1; omega, fun id m hm => ?_⟩, by rw [put_defers, h0.defers], by rw [put_size, h0.size], fun x hx id q1 q2 => ?_⟩
        · rcases hO.dom.2 id m hm with q | q
          · exact h0.dom.2 id m q
          · exact .inr (by omega)
        · cases hφ : φ' id with
          | none => rfl
          | some m =>
            rcases hO.dom.2 id m hφ with q | q
            · rw [h0.fresh x (hsub x hx) id q1 q2] at q; cases q
            · rcases (hne x hx).2 with q' | q' <;> omega
      · rename_i hw
        obtain ⟨c1, c2, c3, c4, c5⟩ := b1
        rw [c1]
        simp only [Bool.false_eq_true, if_false]
        refine next im w φ _ ⟨by simp only [eff, c3, updW]; exact h0.rel, h0.gl, by simp only [eff, c2]; exact h0.env.put hdst V.no, h0.grow, h0.dom, by rw [put_defers, h0.defers], by rw [put_size, h0.size], fun x hx => h0.fresh x (hsub x hx)⟩

theorem pairsB_iff {f : Rec → Rec → Bool} : ∀ {l : List Rec}, pairsB f l = true → l.Pairwise (fun x y => f x y = true) := by
  intro l
  induction l with
  | nil => intro _; exact List.Pairwise.nil
  | cons r l ih =>
    intro h
    simp only [pairsB, Bool.and_eq_true, List.all_eq_true] at h
    exact List.Pairwise.cons h.1 (ih h.2)

theorem draw_sim {C : Ctx} (hT : TabOK C) (hm : C.P.follows .mixedOrders = true) {im0 w0 φ0 n0 a0} {N : Nat} (hl : Free φ0 n0 N) {ops : Array Oper} (hok : regOK a0.tmps.size ops = true) (hdr : drawOK ops = true) {Q : Exit → Act → World → Prop} {id : Nat} {s s' : S} {a : Act}
    (hr : regRun C ops s = some s') (hN : s'.n ≤ N) (h0 : At C im0 w0 φ0 n0 a0 s.env s.n s.h im w φ a)
    (hQ : ∀ im' w' φ' a', At C im0 w0 φ0 n0 a0 s'.env s'.n s'.h im' w' φ' a' → Q .normal a' w') : (Code.region id ops true).wp C.P Q a w := by
  unfold regRun at hr
  split at hr
  · rename_i rs s1 hrec
    split at hr
    · rename_i hconf
      cases hr
      obtain ⟨h1, h2, h3, h4, h5, h6, h7, h8, h9⟩ := opsRec_spec hT _ _ _ _ _ hrec
      have hlen : rs.length = ops.size := by have := congrArg List.length h5; simpa using this
      have hidx : ∀ (k : Nat) (r : Rec), rs[k]? = some r → r.i = k ∧ ops[k]? = some r.o := fun k r hk => by
        have e1 : (rs.map (·.i))[k]? = some r.i := by simp [hk]
        have e2 : (rs.map (·.o))[k]? = some r.o := by simp [hk]
        rw [h6] at e1
        rw [h5] at e2
        have hlt : k < ops.size := by rw [← hlen]; exact (List.getElem?_eq_some_iff.1 hk).1
        rw [List.getElem?_range' (by simpa using hlt)] at e1
        exact ⟨by simpa using e1.symm, by simpa using e2⟩
      have hdrew : Rel im w.drew φ s.h := h0.rel.below ⟨rfl, rfl, rfl, Nat.le_refl _, fun _ _ => rfl⟩
      have hgd : Grow im w φ im w.drew φ := h0.rel.grow_below ⟨rfl, rfl, rfl, Nat.le_refl _, fun _ _ => rfl⟩
      refine wp_region_any hm ?_
      refine any_sim (C := C) hT (im0 := im0) (w0 := w0) (φ0 := φ0) (n0 := n0) (n1 := s'.n) (a0 := a0) hok hdr ops.size _ rs s im w.drew φ a hlen (fun k hk => ?_) (by simp) (fun r hr => ?_) (fun k o hk hkl => ?_) ?_ ?_ h9 (fun r hr => ?_) h1 ?_ (fun im' w' φ' a' hA => hQ im' w' φ' a' ?_)
      · constructor
        · intro _
          obtain ⟨r, hr⟩ : ∃ r, rs[k]? = some r := ⟨rs[k]'(by omega), List.getElem?_eq_getElem (by omega)⟩
          exact ⟨r, List.mem_of_getElem? hr, (hidx k r hr).1⟩
        · intro _; simp [hk]
      · obtain ⟨k, hk⟩ := List.mem_iff_getElem?.1 hr
        have := hidx k r hk
        rw [this.1]; exact this.2
      · exfalso
        have := (Array.getElem?_eq_some_iff.1 hk).1
        simp [this] at hkl
      · rw [List.pairwise_iff_getElem]
        intro i j hi hj hij
        have q1 := (hidx i _ (List.getElem?_eq_getElem hi)).1
        have q2 := (hidx j _ (List.getElem?_eq_getElem hj)).1
        omega
      · unfold confB at hconf
        simp only [Bool.or_eq_true] at hconf
        rcases hconf with hc | hc
        · have hall := List.all_eq_true.1 hc
          rw [List.pairwise_iff_getElem]
          intro i j hi hj hij
          right
          have e1 : (rs[i]).ws = [] := by simpa using hall _ (List.getElem_mem hi)
          have e2 : (rs[j]).ws = [] := by simpa using hall _ (List.getElem_mem hj)
          simp [indH, e1, e2]
        · have := pairsB_iff hc
          exact this.imp fun q => by simpa using q
      · have := h8 r hr
        have := h0.dom.1
        omega
      · refine ⟨hdrew, h0.gl.grow hgd, h0.env.grow hgd, h0.grow.trans hgd, dom_wide h0.dom (Nat.le_refl _) h7, h0.defers, h0.size, fun r hr id q1 q2 => ?_⟩
        have := h8 r hr
        exact h0.fresh hl id (by omega) (by omega)
      · exact ⟨by rw [← h3]; exact hA.rel, hA.gl, by rw [← h2]; exact hA.env, hA.grow, hA.dom, hA.defers, hA.size⟩
    · cases hr
  · cases hr
end
end Go.Pv
