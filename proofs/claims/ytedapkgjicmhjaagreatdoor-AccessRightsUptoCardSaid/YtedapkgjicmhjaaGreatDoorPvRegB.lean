/- A part of the proof that AccessRights returns true wherever its input is of bulk at most 1048576: what the functions that it reaches answer. No theorem of the claim stands here. -/
import Derived.Test.YtedapkgjicmhjaaGreatDoorPvRegA
namespace Go.Pv
open Go Go.RowKit
set_option linter.unusedSimpArgs false
set_option linter.unusedVariables false

def Does (C : Ctx) (ops : Array Oper) (r : Rec) (s : S) : Prop :=
  if r.want then wantA ops s.env r.o = true ∧ opE C true (evA C.gl s.env) r.o r.b s.h s.ch = some (r.v, r.ws, r.e, s.ch) ∧ rdE C (evA C.gl s.env) r.o.op s.h = r.rd
  else wantA ops s.env r.o = false ∧ r.v = .no ∧ r.ws = [] ∧ r.b = r.e ∧ r.rd = some []
def eff (r : Rec) (s : S) : S := ⟨putO s.env r.o.dst r.v, s.n, updW s.h r.ws, s.ch, s.lg⟩
def Runs (C : Ctx) (ops : Array Oper) : List Rec → S → Prop
  | [], _ => True
  | r :: l, s => Does C ops r s ∧ Runs C ops l (eff r s)
def fin : List Rec → S → S
  | [], s => s
  | r :: l, s => fin l (eff r s)

theorem putO_ne {env : Nat → AV} {d : Option Tmp} {v : AV} {t : Nat} (h : d ≠ some t) : putO env d v t = env t := by
  cases d with
  | none => rfl
  | some d => simp only [putO, putE]; rw [if_neg]; intro e; exact h (by rw [e])
theorem putO_comm (env : Nat → AV) {d e : Option Tmp} (v u : AV) (h : ∀ x, d = some x → e ≠ some x) : putO (putO env d v) e u = putO (putO env e u) d v := by
  cases d with
  | none => rfl
  | some d =>
    cases e with
    | none => rfl
    | some e =>
      have hne : d ≠ e := fun q => h d rfl (by rw [q])
      funext j
      simp only [putO, putE]
      by_cases h1 : j = e
      · subst h1; simp [Ne.symm hne]
      · simp [h1]
theorem updW_ne : ∀ (ws : List (Nat × AO)) (h : Hp) (j : Nat), (∀ w ∈ ws, w.1 ≠ j) → updW h ws j = h j := by
  intro ws
  induction ws with
  | nil => intro h j _; rfl
  | cons w r ih =>
    intro h j hn
    obtain ⟨i, o⟩ := w
    simp only [updW]
    rw [ih _ _ fun w hw => hn w (by simp [hw])]
    have : i ≠ j := hn (i, o) (by simp)
    simp [upd, Ne.symm this]
theorem updW_mem : ∀ (ws : List (Nat × AO)) (h h' : Hp) (j : Nat), (∃ w ∈ ws, w.1 = j) → updW h ws j = updW h' ws j := by
  intro ws
  induction ws with
  | nil => intro h h' j ⟨w, hw, _⟩; simp at hw
  | cons w r ih =>
    intro h h' j hn
    obtain ⟨i, o⟩ := w
    simp only [updW]
    by_cases hr : ∃ w ∈ r, w.1 = j
    · exact ih _ _ _ hr
    · have hr' : ∀ w ∈ r, w.1 ≠ j := fun w hw e => hr ⟨w, hw, e⟩
      rw [updW_ne _ _ _ hr', updW_ne _ _ _ hr']
      obtain ⟨w, hw, e⟩ := hn
      rcases List.mem_cons.1 hw with rfl | hw
      · simp at e; simp [upd, e]
      · exact absurd e (hr' w hw)
theorem updW_comm (h : Hp) (a b : List (Nat × AO)) (hd : ∀ x ∈ a, ∀ y ∈ b, y.1 ≠ x.1) : updW (updW h a) b = updW (updW h b) a := by
  funext j
  by_cases hb : ∃ w ∈ b, w.1 = j
  · obtain ⟨y, hy, ey⟩ := hb
    have ha : ∀ w ∈ a, w.1 ≠ j := fun w hw e => hd w hw y hy (ey.trans e.symm)
    rw [updW_ne a _ _ ha, updW_mem b _ h _ ⟨y, hy, ey⟩]
  · have hb' : ∀ w ∈ b, w.1 ≠ j := fun w hw e => hb ⟨w, hw, e⟩
    rw [updW_ne b _ _ hb']
    by_cases ha : ∃ w ∈ a, w.1 = j
    · exact updW_mem a _ _ _ ha
    · have ha' : ∀ w ∈ a, w.1 ≠ j := fun w hw e => ha ⟨w, hw, e⟩
      rw [updW_ne a _ _ ha', updW_ne a _ _ ha', updW_ne b _ _ hb']

theorem wantA_congr {ops : Array Oper} {env env' : Nat → AV} {o : Oper} (h : ∀ t ∈ o.looksAt ops, env' t = env t) : wantA ops env' o = wantA ops env o := by
  unfold wantA
  cases hg : o.guard with
  | none => rfl
  | some g =>
    obtain ⟨j, want⟩ := g
    simp only
    cases ht : (ops[j]?).bind (·.dst) with
    | none => rfl
    | some t => simp only; rw [h t (by simp [Oper.looksAt, hg, ht])]
theorem evA_congr {gl : Nat → List AV} {ops : Array Oper} {env env' : Nat → AV} {o : Oper} (h : ∀ t ∈ o.looksAt ops, env' t = env t) : ∀ x ∈ o.op.operands, evA gl env' x = evA gl env x := by
  intro x hx
  cases x with
  | tmp t => exact h t (List.mem_append_left _ (List.mem_filterMap.2 ⟨.tmp t, by simpa using hx, rfl⟩))
  | const v => rfl
  | global g => rfl
  | func f => rfl

theorem Does.move {C : Ctx} {ops : Array Oper} {r : Rec} {s s' : S} (h : Does C ops r s) (hch : s'.ch = s.ch) (he : ∀ t ∈ r.o.looksAt ops, s'.env t = s.env t) (hh : ∀ rd, r.rd = some rd → ∀ id ∈ rd, s'.h id = s.h id)
    (hn : r.rd = none → s'.h = s.h) : Does C ops r s' := by
  unfold Does at *
  split at h
  · rename_i hw
    rw [if_pos hw]
    obtain ⟨h1, h2, h3⟩ := h
    have hc : ∀ h0 : Hp, _ := fun h0 => opE_congr (C := C) (dr := true) r.o r.b s.ch h0 (evA_congr (gl := C.gl) (ops := ops) he)
    refine ⟨by rw [wantA_congr he]; exact h1, ?_⟩
    rw [hch, (hc s'.h).1, (hc s'.h).2]
    cases hrd : r.rd with
    | none => rw [hn hrd]; exact ⟨h2, by rw [h3, hrd]⟩
    | some rd => exact opE_local r.o (by rw [h3, hrd]) (hh rd hrd) h2
  · rename_i hw
    rw [if_neg hw]
    exact ⟨by rw [wantA_congr he]; exact h.1, h.2⟩

theorem swap {C : Ctx} {ops : Array Oper} {a b : Rec} {s : S} (hap : a.o.apart ops b.o = true) (hi : indH a b = true) (h1 : Does C ops a s) (h2 : Does C ops b (eff a s)) :
    Does C ops b s ∧ Does C ops a (eff b s) ∧ eff b (eff a s) = eff a (eff b s) := by
  obtain ⟨p1, p2, p3⟩ := Oper.apart_spec hap
  simp only [indH, Bool.and_eq_true, List.all_eq_true] at hi
  obtain ⟨i1, i2⟩ := hi
  have q1 : ∀ w ∈ a.ws, (∃ rd, b.rd = some rd ∧ w.1 ∉ rd) ∧ ∀ u ∈ b.ws, u.1 ≠ w.1 := fun w hw => by
    obtain ⟨x1, x2⟩ := i1 w hw
    refine ⟨?_, fun u hu e => ?_⟩
    · cases hb : b.rd with
      | none => simp [hb] at x1
      | some rd => simp [hb] at x1; exact ⟨rd, rfl, x1⟩
    · simp at x2; exact x2 u.1 u.2 hu e
  have q2 : ∀ w ∈ b.ws, ∃ rd, a.rd = some rd ∧ w.1 ∉ rd := fun w hw => by
    have x1 := i2 w hw
    cases ha : a.rd with
    | none => simp [ha] at x1
    | some rd => simp [ha] at x1; exact ⟨rd, rfl, x1⟩
  refine ⟨h2.move rfl (fun t ht => ?_) (fun rd hrd id hid => ?_) (fun hn => ?_), h1.move rfl (fun t ht => ?_) (fun rd hrd id hid => ?_) (fun hn => ?_), ?_⟩
  · exact (putO_ne fun e => p1 t e ht).symm
  · refine (updW_ne _ _ _ fun w hw e => ?_).symm
    obtain ⟨⟨rd', e1, e2⟩, _⟩ := q1 w hw
    rw [hrd] at e1; cases e1
    exact e2 (e ▸ hid)
  · have : a.ws = [] := by
      cases hw : a.ws with
      | nil => rfl
      | cons w r =>
        obtain ⟨⟨rd', e1, _⟩, _⟩ := q1 w (by rw [hw]; simp)
        rw [hn] at e1; cases e1
    simp [eff, this, updW]
  · exact putO_ne fun e => p3 t e ht
  · refine updW_ne _ _ _ fun w hw e => ?_
    obtain ⟨rd', e1, e2⟩ := q2 w hw
    rw [hrd] at e1; cases e1
    exact e2 (e ▸ hid)
  · have : b.ws = [] := by
      cases hw : b.ws with
      | nil => rfl
      | cons w r =>
        obtain ⟨rd', e1, _⟩ := q2 w (by rw [hw]; simp)
        rw [hn] at e1; cases e1
    simp [eff, this, updW]
  · simp only [eff]
    rw [putO_comm _ _ _ p2, updW_comm _ _ _ fun x hx y hy => (q1 x hx).2 y hy]

theorem bubble {C : Ctx} {ops : Array Oper} {j : Rec} {A2 : List Rec} : ∀ (A1 : List Rec) (s : S), (∀ a ∈ A1, a.o.apart ops j.o = true ∧ indH a j = true) → Runs C ops (A1 ++ j :: A2) s →
    Does C ops j s ∧ Runs C ops (A1 ++ A2) (eff j s) ∧ fin (A1 ++ j :: A2) s = fin (A1 ++ A2) (eff j s) := by
  intro A1
  induction A1 with
  | nil => intro s _ h; exact ⟨h.1, h.2, rfl⟩
  | cons a r ih =>
    intro s hi h
    obtain ⟨h1, h2, h3⟩ := ih (eff a s) (fun x hx => hi x (by simp [hx])) h.2
    obtain ⟨k1, k2, k3⟩ := swap (hi a (by simp)).1 (hi a (by simp)).2 h.1 h1
    refine ⟨k1, ⟨k2, by rw [← k3]; exact h2⟩, ?_⟩
    simp only [List.cons_append, fin]
    rw [h3, k3]

/-! ### which operations come before which -/
theorem masks_size : ∀ (l : List Oper) (ms : List Nat), (masks l ms).length = ms.length + l.length := by
  intro l
  induction l with
  | nil => intro ms; rfl
  | cons o r ih => intro ms; simp only [masks]; rw [ih]; simp; omega
theorem masks_pre : ∀ (l : List Oper) (ms : List Nat) (i : Nat), i < ms.length → (masks l ms).getD i 0 = ms.getD i 0 := by
  intro l
  induction l with
  | nil => intro ms i _; rfl
  | cons o r ih =>
    intro ms i hi
    simp only [masks]
    rw [ih _ _ (by simp; omega)]
    simp [List.getD_eq_getElem?_getD, List.getElem?_append_left hi]
theorem maskOf_bit {ms : List Nat} {i : Nat} : ∀ (ps : List Nat) (acc : Nat), (ps.foldl (fun acc p => acc ||| 2 ^ p ||| ms.getD p 0) acc).testBit i = true → acc.testBit i = true ∨ ∃ p ∈ ps, p = i ∨ (ms.getD p 0).testBit i = true := by
  intro ps
  induction ps with
  | nil => intro acc h; exact .inl h
  | cons p r ih =>
    intro acc h
    rcases ih _ h with h | ⟨q, hq, h⟩
    · simp only [Nat.testBit_or, Bool.or_eq_true, Nat.testBit_two_pow] at h
      rcases h with (h | h) | h
      · exact .inl h
      · exact .inr ⟨p, by simp, .inl (by simpa using h)⟩
      · exact .inr ⟨p, by simp, .inr h⟩
    · exact .inr ⟨q, by simp [hq], h⟩
theorem masks_bit : ∀ (l : List Oper) (ms : List Nat) (k i : Nat) (o : Oper), l[k]? = some o → ((masks l ms).getD (ms.length + k) 0).testBit i = true → ∃ p ∈ preds o, p = i ∨ (p < ms.length + k ∧ ((masks l ms).getD p 0).testBit i = true) := by
  intro l
  induction l with
  | nil => intro ms k i o h; simp at h
  | cons x r ih =>
    intro ms k i o h hb
    cases k with
    | zero =>
      simp at h
      subst h
      simp only [masks] at hb ⊢
      rw [masks_pre _ _ _ (by simp)] at hb
      have e : (ms ++ [maskOf ms (preds x)]).getD (ms.length + 0) 0 = maskOf ms (preds x) := by simp [List.getD_eq_getElem?_getD]
      rw [e] at hb
      rcases maskOf_bit _ _ hb with hb | ⟨p, hp, hb⟩
      · simp at hb
      · refine ⟨p, hp, hb.imp id fun hb => ?_⟩
        have hlt : p < ms.length := by
          rcases Nat.lt_or_ge p ms.length with q | q
          · exact q
          · simp [List.getD_eq_getElem?_getD, List.getElem?_eq_none q] at hb
        refine ⟨by omega, ?_⟩
        rw [masks_pre _ _ _ (by simp; omega)]
        simpa [List.getD_eq_getElem?_getD, List.getElem?_append_left hlt] using hb
    | succ k =>
      simp only [masks] at hb ⊢
      have := ih (ms ++ [maskOf ms (preds x)]) k i o (by simpa using h) (by simpa [Nat.add_assoc, Nat.add_comm 1 k] using hb)
      obtain ⟨p, hp, h'⟩ := this
      exact ⟨p, hp, h'.imp id fun ⟨a, b⟩ => ⟨by simp at a; omega, b⟩⟩
theorem anc_listed {ops : Array Oper} {listed : Array Bool} {i : Nat} (hd : ∀ k o, ops[k]? = some o → listed.getD k false = true → ∀ p ∈ preds o, listed.getD p false = true) :
    ∀ j o, ops[j]? = some o → (∀ p ∈ preds o, listed.getD p false = true) → ancB ops i j = true → listed.getD i false = true := by
  intro j
  induction j using Nat.strongRecOn with
  | ind j ih =>
    intro o ho hp hb
    unfold ancB at hb
    obtain ⟨p, hpm, h⟩ := masks_bit ops.toList [] j i o (by simpa using ho) (by simpa using hb)
    rcases h with h | ⟨h1, h2⟩
    · subst h; exact hp _ hpm
    · have hl := hp p hpm
      simp at h1
      cases hop : ops[p]? with
      | none =>
        have : ops.toList.length ≤ p := by simpa using hop
        simp [List.getD_eq_getElem?_getD, List.getElem?_eq_none (show (masks ops.toList []).length ≤ p by rw [masks_size]; simpa using this)] at h2
      | some o' => exact ih p h1 o' hop (hd p o' hop hl) h2

/-! ### what a region's text must be like -/
theorem regOK_good {nt : Nat} {ops : Array Oper} (h : regOK nt ops = true) {i : Nat} {o : Oper} (ho : ops[i]? = some o) : goodOp o = true ∧ (∀ d, o.dst = some d → d < nt) ∧ ∀ p ∈ preds o, p < i := by
  simp only [regOK, Bool.and_eq_true] at h
  have h1 := Array.all_eq_true_iff_forall_mem.1 h.1 o (Array.mem_of_getElem? ho)
  simp only [Bool.and_eq_true] at h1
  have hm : (o, i) ∈ ops.toList.zipIdx := by
    rw [List.mem_iff_getElem?]
    exact ⟨i, by simp [List.getElem?_zipIdx, ho]⟩
  have h2 := List.all_eq_true.1 h.2 _ hm
  exact ⟨h1.1, fun d hd => by have := h1.2; rw [hd] at this; simpa using this, fun p hp => by simpa using List.all_eq_true.1 h2 p hp⟩
theorem drawOK_apart {ops : Array Oper} (h : drawOK ops = true) {i j : Nat} {a b : Oper} (ha : ops[i]? = some a) (hb : ops[j]? = some b) (hij : i < j) (hn : ancB ops i j = false) : a.apart ops b = true := by
  have hm : ∀ {k : Nat} {o : Oper}, ops[k]? = some o → (o, k) ∈ ops.toList.zipIdx := fun {k o} ho => by
    rw [List.mem_iff_getElem?]
    exact ⟨k, by simp [List.getElem?_zipIdx, ho]⟩
  have h2 := List.all_eq_true.1 (List.all_eq_true.1 h _ (hm ha)) _ (hm hb)
  simp only [Bool.or_eq_true, decide_eq_true_eq] at h2
  rcases h2 with (h2 | h2) | h2
  · omega
  · rw [hn] at h2; cases h2
  · exact h2
end Go.Pv
