/- A part of the proof that AccessRights returns true wherever its input is of bulk at most 1048576: what the functions that it reaches answer. No theorem of the claim stands here. -/
import Derived.Test.YtedapkgjicmhjaaGreatDoorPvLaw
namespace Go.Pv
open Go
set_option linter.unusedSimpArgs false
set_option linter.unusedVariables false

abbrev Env := Nat → AV
/-- The same slots and the same heap. -/
def Sm (a b : S) : Prop := a.env = b.env ∧ a.n = b.n ∧ a.h = b.h
theorem Sm.eq {a b : S} (h : Sm a b) : b = ⟨a.env, a.n, a.h, b.ch, b.lg⟩ := by obtain ⟨h1, h2, h3⟩ := h; cases b; simp_all
def SmO (a b : Option S) : Prop := match a, b with
  | some x, some y => Sm x y
  | none, none => True
  | _, _ => False
def SmE (a b : Option (Ex × S)) : Prop := match a, b with
  | some x, some y => x.1 = y.1 ∧ Sm x.2 y.2
  | none, none => True
  | _, _ => False
def SmL (a b : Option (List Lg × S)) : Prop := match a, b with
  | some x, some y => x.1 = y.1 ∧ Sm x.2 y.2
  | none, none => True
  | _, _ => False
theorem regC_sm {C : Ctx} {dr : Bool} : ∀ (l : List O) (a b : S), Sm a b → SmO (regC C dr l a) (regC C dr l b) := by
  intro l
  induction l with
  | nil => intro a b h; exact h
  | cons o r ih =>
    intro a b h
    obtain ⟨h1, h2, h3⟩ := h
    simp only [regC, ← h1, ← h2, ← h3]
    split
    · split
      · split
        · trivial
        · exact ih _ _ ⟨rfl, rfl, rfl⟩
      · trivial
    · exact ih _ _ ⟨rfl, rfl, rfl⟩
theorem recC_sm {C : Ctx} : ∀ (l : List O) (i : Nat) (a b : S), Sm a b → SmL (recC C l i a) (recC C l i b) := by
  intro l
  induction l with
  | nil => intro i a b h; exact ⟨rfl, h⟩
  | cons o r ih =>
    intro i a b h
    obtain ⟨h1, h2, h3⟩ := h
    simp only [recC, ← h1, ← h2, ← h3]
    split
    · split
      · rename_i v ws n' _
        have := ih (i + 1) ⟨putO a.env o.d v, n', updW a.h ws, a.ch, a.lg ++ ws⟩ ⟨putO a.env o.d v, n', updW a.h ws, b.ch, b.lg ++ ws⟩ ⟨rfl, rfl, rfl⟩
        revert this
        cases recC C r (i + 1) ⟨putO a.env o.d v, n', updW a.h ws, a.ch, a.lg ++ ws⟩ <;> cases recC C r (i + 1) ⟨putO a.env o.d v, n', updW a.h ws, b.ch, b.lg ++ ws⟩ <;> intro this <;> first | exact this.elim | trivial | exact ⟨by rw [this.1], this.2⟩
      · trivial
    · have := ih (i + 1) ⟨putO a.env o.d .no, a.n, a.h, a.ch, a.lg⟩ ⟨putO a.env o.d .no, a.n, a.h, b.ch, b.lg⟩ ⟨rfl, rfl, rfl⟩
      revert this
      cases recC C r (i + 1) ⟨putO a.env o.d .no, a.n, a.h, a.ch, a.lg⟩ <;> cases recC C r (i + 1) ⟨putO a.env o.d .no, a.n, a.h, b.ch, b.lg⟩ <;> intro this <;> first | exact this.elim | trivial | exact ⟨by rw [this.1], this.2⟩
theorem iter_sm {f : S → Option (Ex × S)} (hf : ∀ a b, Sm a b → SmE (f a) (f b)) : ∀ (k : Nat) (a b : S), Sm a b → SmE (iter f k a) (iter f k b) := by
  intro k
  induction k with
  | zero => intro a b h; trivial
  | succ k ih =>
    intro a b h
    have := hf a b h
    rw [iter, iter]
    revert this
    cases f a with
    | none => cases f b <;> intro this <;> first | exact this.elim | trivial
    | some x =>
      cases f b with
      | none => intro this; exact this.elim
      | some y =>
        intro this
        obtain ⟨e1, s1⟩ := x
        obtain ⟨e2, s2⟩ := y
        obtain ⟨rfl, h2⟩ := this
        cases e1 with
        | normal => exact ih _ _ h2
        | exit i => exact ⟨rfl, h2⟩
        | ret => exact ⟨rfl, h2⟩
theorem loop_sm {f : S → Option (Ex × S)} (hf : ∀ a b, Sm a b → SmE (f a) (f b)) {a b : S} (h : Sm a b) : SmE (loopLim f a) (loopLim f b) := by
  cases ha : loopLim f a with
  | some x =>
    obtain ⟨k, hk⟩ := iter_of_loopLim ha
    have := iter_sm hf k a b h
    rw [hk] at this
    cases hb : iter f k b with
    | none => rw [hb] at this; exact this.elim
    | some y => rw [hb] at this; rw [loopLim_of_iter hb]; exact this
  | none =>
    cases hb : loopLim f b with
    | none => trivial
    | some y =>
      obtain ⟨k, hk⟩ := iter_of_loopLim hb
      have := iter_sm hf k a b h
      rw [hk] at this
      cases hb' : iter f k a with
      | none => rw [hb'] at this; exact this.elim
      | some x => rw [loopLim_of_iter hb'] at ha; cases ha
theorem runC_sm {C : Ctx} : ∀ (c : CC) (a b : S), Sm a b → SmE (runC C c a) (runC C c b) := by
  intro c
  induction c with
  | skip => intro a b h; exact ⟨rfl, h⟩
  | exit i => intro a b h; exact ⟨rfl, h⟩
  | ret => intro a b h; exact ⟨rfl, h⟩
  | reg dr l =>
    intro a b h
    have := regC_sm (C := C) (dr := dr) l a b h
    simp only [runC]
    revert this
    cases regC C dr l a <;> cases regC C dr l b <;> intro this <;> first | exact this.elim | trivial | exact ⟨rfl, this⟩
  | regW ms l =>
    intro a b h
    have := recC_sm (C := C) l 0 a b h
    simp only [runC]
    revert this
    cases recC C l 0 a <;> cases recC C l 0 b <;> intro this <;> first | exact this.elim | trivial | skip
    rename_i x y
    obtain ⟨l1, s1⟩ := x
    obtain ⟨l2, s2⟩ := y
    obtain ⟨rfl, h2⟩ := this
    simp only
    split
    · exact ⟨rfl, h2⟩
    · trivial
  | seq x y ihx ihy =>
    intro a b h
    have := ihx a b h
    simp only [runC]
    revert this
    cases runC C x a with
    | none => cases runC C x b <;> intro this <;> first | exact this.elim | trivial
    | some p =>
      cases runC C x b with
      | none => intro this; exact this.elim
      | some q =>
        intro this
        obtain ⟨e1, s1⟩ := p
        obtain ⟨e2, s2⟩ := q
        obtain ⟨rfl, h2⟩ := this
        cases e1 with
        | normal => exact ihy _ _ h2
        | exit i => exact ⟨rfl, h2⟩
        | ret => exact ⟨rfl, h2⟩
  | cond c x y ihx ihy =>
    intro a b h
    simp only [runC, ← h.1]
    split
    · split
      · exact ihx _ _ h
      · exact ihy _ _ h
    · trivial
  | block id c ih =>
    intro a b h
    have := ih a b h
    simp only [runC]
    revert this
    cases runC C c a with
    | none => cases runC C c b <;> intro this <;> first | exact this.elim | trivial
    | some p =>
      cases runC C c b with
      | none => intro this; exact this.elim
      | some q =>
        intro this
        obtain ⟨e1, s1⟩ := p
        obtain ⟨e2, s2⟩ := q
        obtain ⟨rfl, h2⟩ := this
        cases e1 with
        | normal => exact ⟨rfl, h2⟩
        | exit i =>
          simp only
          split
          · exact ⟨rfl, h2⟩
          · exact ⟨rfl, h2⟩
        | ret => exact ⟨rfl, h2⟩
  | loop c ih =>
    intro a b h
    simp only [runC]
    exact loop_sm ih h

/-- From these slots and this heap, the code comes to an end that Q knows. -/
def Wp (C : Ctx) (c : CC) (env : Env) (n : Nat) (h : Hp) (Q : Ex → Env → Nat → Hp → Prop) : Prop :=
  ∃ e s', runC C c ⟨env, n, h, 0, []⟩ = some (e, s') ∧ Q e s'.env s'.n s'.h
def Rg (C : Ctx) (dr : Bool) (l : List O) (env : Env) (n : Nat) (h : Hp) (Q : Env → Nat → Hp → Prop) : Prop :=
  ∃ s', regC C dr l ⟨env, n, h, 0, []⟩ = some s' ∧ Q s'.env s'.n s'.h
def Rw (C : Ctx) (ms : List Nat) (lgs : List Lg) (l : List O) (i : Nat) (env : Env) (n : Nat) (h : Hp) (Q : Env → Nat → Hp → Prop) : Prop :=
  ∃ rs s', recC C l i ⟨env, n, h, 0, []⟩ = some (rs, s') ∧ confL ms (lgs ++ rs) = true ∧ Q s'.env s'.n s'.h
theorem Wp.at {C : Ctx} {c : CC} {s : S} {Q : Ex → Env → Nat → Hp → Prop} (w : Wp C c s.env s.n s.h Q) : ∃ e s', runC C c s = some (e, s') ∧ Q e s'.env s'.n s'.h := by
  obtain ⟨e, s', h1, h2⟩ := w
  have := runC_sm (C := C) c ⟨s.env, s.n, s.h, 0, []⟩ s ⟨rfl, rfl, rfl⟩
  rw [h1] at this
  cases hr : runC C c s with
  | none => rw [hr] at this; exact this.elim
  | some y =>
    rw [hr] at this
    obtain ⟨e2, s2⟩ := y
    obtain ⟨rfl, k1, k2, k3⟩ := this
    exact ⟨_, _, rfl, by rw [← k1, ← k2, ← k3]; exact h2⟩
theorem Wp.of_at {C : Ctx} {c : CC} {s s' : S} {e : Ex} {Q : Ex → Env → Nat → Hp → Prop} (hr : runC C c s = some (e, s')) (hq : Q e s'.env s'.n s'.h) : Wp C c s.env s.n s.h Q := by
  have := runC_sm (C := C) c s ⟨s.env, s.n, s.h, 0, []⟩ ⟨rfl, rfl, rfl⟩
  rw [hr] at this
  unfold Wp
  cases hr2 : runC C c ⟨s.env, s.n, s.h, 0, []⟩ with
  | none => rw [hr2] at this; exact this.elim
  | some y =>
    rw [hr2] at this
    obtain ⟨e2, s2⟩ := y
    obtain ⟨rfl, k1, k2, k3⟩ := this
    exact ⟨_, _, rfl, by rw [← k1, ← k2, ← k3]; exact hq⟩
theorem Rg.at {C : Ctx} {dr : Bool} {l : List O} {s : S} {Q : Env → Nat → Hp → Prop} (w : Rg C dr l s.env s.n s.h Q) : ∃ s', regC C dr l s = some s' ∧ Q s'.env s'.n s'.h := by
  obtain ⟨s', h1, h2⟩ := w
  have := regC_sm (C := C) (dr := dr) l ⟨s.env, s.n, s.h, 0, []⟩ s ⟨rfl, rfl, rfl⟩
  rw [h1] at this
  cases hr : regC C dr l s with
  | none => rw [hr] at this; exact this.elim
  | some y =>
    rw [hr] at this
    obtain ⟨k1, k2, k3⟩ := this
    exact ⟨_, rfl, by rw [← k1, ← k2, ← k3]; exact h2⟩
theorem Rw.at {C : Ctx} {ms : List Nat} {lgs : List Lg} {i : Nat} {l : List O} {s : S} {Q : Env → Nat → Hp → Prop} (w : Rw C ms lgs l i s.env s.n s.h Q) : ∃ rs s', recC C l i s = some (rs, s') ∧ confL ms (lgs ++ rs) = true ∧ Q s'.env s'.n s'.h := by
  obtain ⟨rs, s', h1, hc, h2⟩ := w
  have := recC_sm (C := C) l i ⟨s.env, s.n, s.h, 0, []⟩ s ⟨rfl, rfl, rfl⟩
  rw [h1] at this
  cases hr : recC C l i s with
  | none => rw [hr] at this; exact this.elim
  | some y =>
    rw [hr] at this
    obtain ⟨rs2, s2⟩ := y
    obtain ⟨rfl, k1, k2, k3⟩ := this
    exact ⟨_, _, rfl, hc, by rw [← k1, ← k2, ← k3]; exact h2⟩

theorem Wp.mono {C : Ctx} {c : CC} {env : Env} {n : Nat} {h : Hp} {Q Q' : Ex → Env → Nat → Hp → Prop} (w : Wp C c env n h Q) (hq : ∀ e env n h, Q e env n h → Q' e env n h) : Wp C c env n h Q' := by
  obtain ⟨e, s', h1, h2⟩ := w
  exact ⟨e, s', h1, hq _ _ _ _ h2⟩

def thenQ (k : Env → Nat → Hp → Prop) (Q : Ex → Env → Nat → Hp → Prop) : Ex → Env → Nat → Hp → Prop
  | .normal, a, b, c => k a b c
  | e, a, b, c => Q e a b c
def blockQ (id : Nat) (Q : Ex → Env → Nat → Hp → Prop) : Ex → Env → Nat → Hp → Prop
  | .exit i, a, b, c => if i = id then Q .normal a b c else Q (.exit i) a b c
  | e, a, b, c => Q e a b c
def condW (v : AV) (p q : Prop) : Prop := match v with
  | .bool t => if t = true then p else q
  | _ => False
def guardW (v : AV) (b : Bool) (p q : Prop) : Prop := match v, b with
  | .bool true, true => p
  | .bool false, false => p
  | _, _ => q
@[simp] theorem guardW_tt {p q} : guardW (.bool true) true p q = p := rfl
@[simp] theorem guardW_tf {p q} : guardW (.bool true) false p q = q := rfl
@[simp] theorem guardW_ft {p q} : guardW (.bool false) true p q = q := rfl
@[simp] theorem guardW_ff {p q} : guardW (.bool false) false p q = p := rfl
@[simp] theorem guardW_no {b p q} : guardW (.tup []) b p q = q := rfl
theorem guardW_mk {t b : Bool} {p q : Prop} (h1 : t = b → p) (h2 : t = (!b) → q) : guardW (.bool t) b p q := by cases t <;> cases b <;> simp_all
def optW {α : Type} (o : Option α) (k : α → Prop) : Prop := match o with
  | some v => k v
  | none => False
theorem thenQ_n (k Q a b c) : thenQ k Q .normal a b c = k a b c := rfl
theorem thenQ_e (k Q i a b c) : thenQ k Q (.exit i) a b c = Q (.exit i) a b c := rfl
theorem thenQ_r (k Q a b c) : thenQ k Q .ret a b c = Q .ret a b c := rfl
theorem blockQ_n (id Q a b c) : blockQ id Q .normal a b c = Q .normal a b c := rfl
theorem blockQ_e (id Q i a b c) : blockQ id Q (.exit i) a b c = if i = id then Q .normal a b c else Q (.exit i) a b c := rfl
theorem blockQ_r (id Q a b c) : blockQ id Q .ret a b c = Q .ret a b c := rfl
@[simp] theorem condW_t (p q) : condW (.bool true) p q = p := by simp [condW]
@[simp] theorem condW_f (p q) : condW (.bool false) p q = q := by simp [condW]
theorem condW_mk {t : Bool} {p q : Prop} (h1 : t = true → p) (h2 : t = false → q) : condW (.bool t) p q := by cases t <;> simp_all
theorem condW_dec {a : Prop} [Decidable a] {p q : Prop} (h1 : a → p) (h2 : ¬ a → q) : condW (.bool (decide a)) p q := by by_cases h : a <;> simp_all
theorem condW_nde {a : Prop} [Decidable a] {p q : Prop} (h1 : a → q) (h2 : ¬ a → p) : condW (.bool (!decide a)) p q := by by_cases h : a <;> simp_all
@[simp] theorem optW_some {α : Type} (v : α) (k : α → Prop) : optW (some v) k = k v := rfl
@[simp] theorem optW_none {α : Type} (k : α → Prop) : optW (none : Option α) k = False := rfl
theorem optW_mk {α : Type} {o : Option α} {v : α} {k : α → Prop} (h : o = some v) (hk : k v) : optW o k := by rw [h]; exact hk

theorem Wp_skip {C env n h Q} : Wp C .skip env n h Q = Q .normal env n h := by
  apply propext
  constructor
  · rintro ⟨e, s', h1, h2⟩; simp only [runC_skip, Option.some.injEq, Prod.mk.injEq] at h1; obtain ⟨rfl, rfl⟩ := h1; exact h2
  · intro q; exact ⟨_, _, rfl, q⟩
theorem Wp_ret {C env n h Q} : Wp C .ret env n h Q = Q .ret env n h := by
  apply propext
  constructor
  · rintro ⟨e, s', h1, h2⟩; simp only [runC_ret, Option.some.injEq, Prod.mk.injEq] at h1; obtain ⟨rfl, rfl⟩ := h1; exact h2
  · intro q; exact ⟨_, _, rfl, q⟩
theorem Wp_exit {C env n h Q i} : Wp C (.exit i) env n h Q = Q (.exit i) env n h := by
  apply propext
  constructor
  · rintro ⟨e, s', h1, h2⟩; simp only [runC_exit, Option.some.injEq, Prod.mk.injEq] at h1; obtain ⟨rfl, rfl⟩ := h1; exact h2
  · intro q; exact ⟨_, _, rfl, q⟩
theorem Wp_seq {C a b env n h Q} : Wp C (.seq a b) env n h Q = Wp C a env n h (thenQ (fun env n h => Wp C b env n h Q) Q) := by
  apply propext
  constructor
  · rintro ⟨e, s', h1, h2⟩
    rw [runC_seq] at h1
    cases ha : runC C a ⟨env, n, h, 0, []⟩ with
    | none => rw [ha] at h1; cases h1
    | some p =>
      rw [ha] at h1
      obtain ⟨e1, s1⟩ := p
      refine ⟨e1, s1, ha, ?_⟩
      cases e1 with
      | normal => exact Wp.of_at h1 h2
      | exit i => cases h1; exact h2
      | ret => cases h1; exact h2
  · rintro ⟨e, s', h1, h2⟩
    unfold Wp
    rw [runC_seq, h1]
    cases e with
    | normal => exact Wp.at h2
    | exit i => exact ⟨_, _, rfl, h2⟩
    | ret => exact ⟨_, _, rfl, h2⟩
theorem Wp_reg {C dr l env n h Q} : Wp C (.reg dr l) env n h Q = Rg C dr l env n h (Q .normal) := by
  apply propext
  constructor
  · rintro ⟨e, s', h1, h2⟩
    rw [runC_reg] at h1
    split at h1
    · rename_i s1 hs; cases h1; exact ⟨_, hs, h2⟩
    · cases h1
  · rintro ⟨s', h1, h2⟩
    exact ⟨.normal, s', by rw [runC_reg, h1], h2⟩
theorem Wp_regW {C ms l env n h Q} : Wp C (.regW ms l) env n h Q = Rw C ms [] l 0 env n h (Q .normal) := by
  apply propext
  constructor
  · rintro ⟨e, s', h1, h2⟩
    simp only [runC] at h1
    split at h1
    · rename_i rs s1 hs
      split at h1
      · rename_i hc; cases h1; exact ⟨_, _, hs, hc, h2⟩
      · cases h1
    · cases h1
  · rintro ⟨rs, s', h1, h2, h3⟩
    simp only [List.nil_append] at h2
    exact ⟨.normal, s', by simp only [runC, h1, h2, if_true], h3⟩
theorem Wp_cond {C c x y env n h Q} : Wp C (.cond c x y) env n h Q = condW (c.ev C.gl env) (Wp C x env n h Q) (Wp C y env n h Q) := by
  apply propext
  unfold Wp condW
  rw [runC_cond]
  cases c.ev C.gl env with
  | bool t => cases t <;> simp
  | _ => simp
theorem Wp_block {C id c env n h Q} : Wp C (.block id c) env n h Q = Wp C c env n h (blockQ id Q) := by
  apply propext
  constructor
  · rintro ⟨e, s', h1, h2⟩
    rw [runC_block] at h1
    cases ha : runC C c ⟨env, n, h, 0, []⟩ with
    | none => rw [ha] at h1; cases h1
    | some p =>
      rw [ha] at h1
      obtain ⟨e1, s1⟩ := p
      refine ⟨e1, s1, ha, ?_⟩
      cases e1 with
      | normal => cases h1; exact h2
      | exit i =>
        simp only at h1
        simp only [blockQ_e]
        split at h1
        · rename_i hi; rw [if_pos hi]; cases h1; exact h2
        · rename_i hi; rw [if_neg hi]; cases h1; exact h2
      | ret => cases h1; exact h2
  · rintro ⟨e, s', h1, h2⟩
    unfold Wp
    rw [runC_block, h1]
    cases e with
    | normal => exact ⟨_, _, rfl, h2⟩
    | exit i =>
      simp only [blockQ_e] at h2
      simp only
      split at h2
      · rename_i hi; rw [if_pos hi]; exact ⟨_, _, rfl, h2⟩
      · rename_i hi; rw [if_neg hi]; exact ⟨_, _, rfl, h2⟩
    | ret => exact ⟨_, _, rfl, h2⟩
theorem Wp_loop {C c Q} (I : Nat → Env → Nat → Hp → Prop) (hI : ∀ k env n h, I k env n h → Wp C c env n h (thenQ (fun env n h => ∃ k', k' < k ∧ I k' env n h) Q)) :
    ∀ (k : Nat) {env n h}, I k env n h → Wp C (.loop c) env n h Q := by
  intro k
  induction k using Nat.strongRecOn with
  | _ k ih =>
    intro env n h h0
    obtain ⟨e, s', h1, h2⟩ := hI k env n h h0
    unfold Wp
    rw [runC_loop, loopLim_eq, h1]
    cases e with
    | normal =>
      obtain ⟨k', hk, hI'⟩ := h2
      exact (ih k' hk hI').at
    | exit i => exact ⟨_, _, rfl, h2⟩
    | ret => exact ⟨_, _, rfl, h2⟩

/-! ### regions -/
theorem Rg_nil {C dr env n h Q} : Rg C dr [] env n h Q = Q env n h := by
  apply propext
  constructor
  · rintro ⟨s', h1, h2⟩; simp only [regC_nil, Option.some.injEq] at h1; subst h1; exact h2
  · intro q; exact ⟨_, rfl, q⟩
/-- What an instruction hands on. -/
def iW (C : Ctx) (dr : Bool) (env : Env) (n : Nat) (h : Hp) (i : I) (k : AV → List (Nat × AO) → Nat → Prop) : Prop :=
  optW (iE C dr env n h i) fun r => k r.1 r.2.1 r.2.2
theorem iW_eq {C dr env n h i k v ws n'} (he : iE C dr env n h i = some (v, ws, n')) : iW C dr env n h i k = k v ws n' := by simp [iW, he]
theorem Rg_step {C dr d i r env n h Q} : Rg C dr (⟨d, none, i⟩ :: r) env n h Q = iW C dr env n h i fun v ws n' => (dr && !ws.isEmpty) = false ∧ Rg C dr r (putO env d v) n' (updW h ws) Q := by
  apply propext
  unfold iW
  constructor
  · rintro ⟨s', h1, h2⟩
    rw [regC_cons] at h1
    split at h1
    · rename_i v ws n' hv
      split at h1
      · cases h1
      · rename_i hd
        simp only at hv
        rw [hv]
        have hs := regC_sm (C := C) (dr := dr) r ⟨putO env d v, n', updW h ws, 0, [] ++ ws⟩ ⟨putO env d v, n', updW h ws, 0, []⟩ ⟨rfl, rfl, rfl⟩
        simp only at h1
        rw [h1] at hs
        refine ⟨by simpa using hd, ?_⟩
        unfold Rg
        cases hr : regC C dr r ⟨putO env d v, n', updW h ws, 0, []⟩ with
        | none => rw [hr] at hs; exact hs.elim
        | some y =>
          rw [hr] at hs
          obtain ⟨k1, k2, k3⟩ := hs
          exact ⟨y, rfl, by rw [← k1, ← k2, ← k3]; exact h2⟩
    · cases h1
  · intro w
    unfold optW at w
    split at w
    · rename_i v hv
      obtain ⟨v, ws, n'⟩ := v
      obtain ⟨w1, w2⟩ := w
      obtain ⟨s', h1, h2⟩ := Rg.at (s := ⟨putO env d v, n', updW h ws, 0, [] ++ ws⟩) w2
      exact ⟨s', by rw [regC_cons]; simp only [hv, w1, Bool.false_eq_true, if_false]; exact h1, h2⟩
    · exact w.elim
theorem Rg_cons {C d i r env n h Q} : Rg C false (⟨d, none, i⟩ :: r) env n h Q = iW C false env n h i fun v ws n' => Rg C false r (putO env d v) n' (updW h ws) Q := by
  rw [Rg_step]; simp
theorem Rg_consD {C d i r env n h Q} : Rg C true (⟨d, none, i⟩ :: r) env n h Q = iW C true env n h i fun v ws n' => ws = [] ∧ Rg C true r (putO env d v) n' (updW h ws) Q := by
  rw [Rg_step]; simp
theorem Rg_if {C dr d t b i r env n h Q} : Rg C dr (⟨d, some (t, b), i⟩ :: r) env n h Q = guardW (env t) b (Rg C dr (⟨d, none, i⟩ :: r) env n h Q) (Rg C dr r (putO env d .no) n h Q) := by
  have hyes : wantC env (some (t, b)) = true → Rg C dr (⟨d, some (t, b), i⟩ :: r) env n h Q = Rg C dr (⟨d, none, i⟩ :: r) env n h Q := by
    intro hw; unfold Rg; simp only [regC, hw, wantC_none]
  have hno : wantC env (some (t, b)) = false → Rg C dr (⟨d, some (t, b), i⟩ :: r) env n h Q = Rg C dr r (putO env d .no) n h Q := by
    intro hw; unfold Rg; simp only [regC, hw, Bool.false_eq_true, if_false]
  cases hx : env t with
  | bool x =>
    have hw : wantC env (some (t, b)) = (x == b) := by simp only [wantC, hx]
    cases x <;> cases b <;> simp at hw <;> first | rw [hyes hw]; rfl | rw [hno hw]; rfl
  | _ =>
    have hw : wantC env (some (t, b)) = false := by simp only [wantC, hx]
    rw [hno hw]; rfl

theorem Rw_nil' {C ms lgs i env n h Q} : Rw C ms lgs [] i env n h Q = (confL ms lgs = true ∧ Q env n h) := by
  apply propext
  constructor
  · rintro ⟨rs, s', h1, h2, h3⟩
    simp only [recC, Option.some.injEq, Prod.mk.injEq] at h1
    obtain ⟨rfl, rfl⟩ := h1
    exact ⟨by simpa using h2, h3⟩
  · rintro ⟨h1, h2⟩; exact ⟨[], _, rfl, by simpa using h1, h2⟩
theorem Rw_cons {C ms lgs d i r k env n h Q} : Rw C ms lgs (⟨d, none, i⟩ :: r) k env n h Q = iW C true env n h i fun v ws n' => Rw C ms (lgs ++ [⟨k, ws.map (·.1), rdI C env h i⟩]) r (k + 1) (putO env d v) n' (updW h ws) Q := by
  apply propext
  unfold iW
  constructor
  · rintro ⟨rs, s', h1, h2, h3⟩
    simp only [recC, wantC_none, if_true] at h1
    split at h1
    · rename_i v ws n' hv
      rw [hv]
      have hs := recC_sm (C := C) r (k + 1) ⟨putO env d v, n', updW h ws, 0, [] ++ ws⟩ ⟨putO env d v, n', updW h ws, 0, []⟩ ⟨rfl, rfl, rfl⟩
      split at h1
      · rename_i l s1 hr1
        cases h1
        rw [hr1] at hs
        simp only [optW_some]
        unfold Rw
        cases hr : recC C r (k + 1) ⟨putO env d v, n', updW h ws, 0, []⟩ with
        | none => rw [hr] at hs; exact hs.elim
        | some y =>
          rw [hr] at hs
          obtain ⟨k0, k1, k2, k3⟩ := hs
          obtain ⟨l2, s2⟩ := y
          obtain rfl : l = l2 := k0
          exact ⟨_, _, rfl, by simpa using h2, by rw [← k1, ← k2, ← k3]; exact h3⟩
      · cases h1
    · cases h1
  · intro w
    unfold optW at w
    split at w
    · rename_i v hv
      obtain ⟨v, ws, n'⟩ := v
      obtain ⟨rs, s', h1, h2, h3⟩ := Rw.at (s := ⟨putO env d v, n', updW h ws, 0, [] ++ ws⟩) w
      refine ⟨_, s', by simp only [recC, wantC_none, if_true, hv, h1]; rfl, ?_, h3⟩
      simpa using h2
    · exact w.elim
theorem Rw_if {C ms lgs d t b i r k env n h Q} : Rw C ms lgs (⟨d, some (t, b), i⟩ :: r) k env n h Q = guardW (env t) b (Rw C ms lgs (⟨d, none, i⟩ :: r) k env n h Q) (Rw C ms (lgs ++ [⟨k, [], some []⟩]) r (k + 1) (putO env d .no) n h Q) := by
  have hyes : wantC env (some (t, b)) = true → Rw C ms lgs (⟨d, some (t, b), i⟩ :: r) k env n h Q = Rw C ms lgs (⟨d, none, i⟩ :: r) k env n h Q := by
    intro hw; unfold Rw; simp only [recC, hw, wantC_none]
  have hno : wantC env (some (t, b)) = false → Rw C ms lgs (⟨d, some (t, b), i⟩ :: r) k env n h Q = Rw C ms (lgs ++ [⟨k, [], some []⟩]) r (k + 1) (putO env d .no) n h Q := by
    intro hw
    apply propext
    constructor
    · rintro ⟨rs, s', h1, h2, h3⟩
      simp only [recC, hw, Bool.false_eq_true, if_false] at h1
      split at h1
      · rename_i l s1 hr1; cases h1; exact ⟨_, _, hr1, by simpa using h2, h3⟩
      · cases h1
    · rintro ⟨rs, s', h1, h2, h3⟩
      exact ⟨_, s', by simp only [recC, hw, Bool.false_eq_true, if_false, h1]; rfl, by simpa using h2, h3⟩
  cases hx : env t with
  | bool x =>
    have hw : wantC env (some (t, b)) = (x == b) := by simp only [wantC, hx]
    cases x <;> cases b <;> simp at hw <;> first | rw [hyes hw]; rfl | rw [hno hw]; rfl
  | _ =>
    have hw : wantC env (some (t, b)) = false := by simp only [wantC, hx]
    rw [hno hw]; rfl

/-! ### configurations: code, what comes behind it, slots, heap -/
inductive Fr where
  | sq (c : CC)
  | bl (id : Nat)
  | st (P : Env → Nat → Hp → Prop)
def post (C : Ctx) (Q : Ex → Env → Nat → Hp → Prop) : List Fr → Ex → Env → Nat → Hp → Prop
  | [] => Q
  | .sq c :: K => thenQ (fun env n h => Wp C c env n h (post C Q K)) (post C Q K)
  | .bl id :: K => blockQ id (post C Q K)
  | .st P :: K => thenQ P (post C Q K)
def Wk (C : Ctx) (Q : Ex → Env → Nat → Hp → Prop) (c : CC) (K : List Fr) (env : Env) (n : Nat) (h : Hp) : Prop := Wp C c env n h (post C Q K)
def Pk (C : Ctx) (Q : Ex → Env → Nat → Hp → Prop) (K : List Fr) (e : Ex) (env : Env) (n : Nat) (h : Hp) : Prop := post C Q K e env n h
def Rk (C : Ctx) (Q : Ex → Env → Nat → Hp → Prop) (dr : Bool) (l : List O) (K : List Fr) (env : Env) (n : Nat) (h : Hp) : Prop := Rg C dr l env n h (post C Q K .normal)
def Sk (C : Ctx) (Q : Ex → Env → Nat → Hp → Prop) (dr : Bool) (d : Option Nat) (l : List O) (K : List Fr) (env : Env) (h : Hp) (res : Option (AV × List (Nat × AO) × Nat)) : Prop :=
  optW res fun r => (dr && !r.2.1.isEmpty) = false ∧ Rk C Q dr l K (putO env d r.1) r.2.2 (updW h r.2.1)
def Gk (C : Ctx) (Q : Ex → Env → Nat → Hp → Prop) (dr : Bool) (d : Option Nat) (i : I) (l : List O) (K : List Fr) (env : Env) (n : Nat) (h : Hp) (v : AV) (b : Bool) : Prop :=
  guardW v b (Rk C Q dr (⟨d, none, i⟩ :: l) K env n h) (Rk C Q dr l K (putO env d .no) n h)
/-- What a slot holds that is written where a test comes out so. -/
def sel (t b : Bool) (v : AV) : AV := if t = b then v else .no
@[simp] theorem sel_of {t b : Bool} {v : AV} (h : t = b) : sel t b v = v := by simp [sel, h]
@[simp] theorem sel_tf {v : AV} : sel true false v = .tup [] := rfl
@[simp] theorem sel_ft {v : AV} : sel false true v = .tup [] := rfl
def GSk (C : Ctx) (Q : Ex → Env → Nat → Hp → Prop) (dr : Bool) (d : Option Nat) (l : List O) (K : List Fr) (env : Env) (n : Nat) (h : Hp) (t b : Bool) (res : Option (AV × List (Nat × AO) × Nat)) : Prop :=
  guardW (.bool t) b (Sk C Q dr d l K env h res) (Rk C Q dr l K (putO env d .no) n h)
def Ck (C : Ctx) (Q : Ex → Env → Nat → Hp → Prop) (x y : CC) (K : List Fr) (env : Env) (n : Nat) (h : Hp) (v : AV) : Prop := condW v (Wk C Q x K env n h) (Wk C Q y K env n h)
def Vk (C : Ctx) (Q : Ex → Env → Nat → Hp → Prop) (ms : List Nat) (lgs : List Lg) (l : List O) (i : Nat) (K : List Fr) (env : Env) (n : Nat) (h : Hp) : Prop := Rw C ms lgs l i env n h (post C Q K .normal)
def VSk (C : Ctx) (Q : Ex → Env → Nat → Hp → Prop) (ms : List Nat) (lgs : List Lg) (rd : Option (List Nat)) (d : Option Nat) (l : List O) (i : Nat) (K : List Fr) (env : Env) (h : Hp) (res : Option (AV × List (Nat × AO) × Nat)) : Prop :=
  optW res fun r => Vk C Q ms (lgs ++ [⟨i, r.2.1.map (·.1), rd⟩]) l (i + 1) K (putO env d r.1) r.2.2 (updW h r.2.1)
def VGk (C : Ctx) (Q : Ex → Env → Nat → Hp → Prop) (ms : List Nat) (lgs : List Lg) (d : Option Nat) (x : I) (l : List O) (i : Nat) (K : List Fr) (env : Env) (n : Nat) (h : Hp) (v : AV) (b : Bool) : Prop :=
  guardW v b (Vk C Q ms lgs (⟨d, none, x⟩ :: l) i K env n h) (Vk C Q ms (lgs ++ [⟨i, [], some []⟩]) l (i + 1) K (putO env d .no) n h)
section
variable {C : Ctx} {Q : Ex → Env → Nat → Hp → Prop} {K : List Fr} {env : Env} {n : Nat} {h : Hp}
@[simp] theorem Wk_seq {a b} : Wk C Q (.seq a b) K env n h = Wk C Q a (.sq b :: K) env n h := Wp_seq
@[simp] theorem Wk_block {id c} : Wk C Q (.block id c) K env n h = Wk C Q c (.bl id :: K) env n h := Wp_block
@[simp] theorem Wk_skip : Wk C Q .skip K env n h = Pk C Q K .normal env n h := Wp_skip
@[simp] theorem Wk_ret : Wk C Q .ret K env n h = Pk C Q K .ret env n h := Wp_ret
@[simp] theorem Wk_exit {i} : Wk C Q (.exit i) K env n h = Pk C Q K (.exit i) env n h := Wp_exit
@[simp] theorem Wk_reg {dr l} : Wk C Q (.reg dr l) K env n h = Rk C Q dr l K env n h := Wp_reg
@[simp] theorem Wk_regW {ms l} : Wk C Q (.regW ms l) K env n h = Vk C Q ms [] l 0 K env n h := Wp_regW
@[simp] theorem Wk_cond {c x y} : Wk C Q (.cond c x y) K env n h = Ck C Q x y K env n h (c.ev C.gl env) := Wp_cond
@[simp] theorem Pk_nil {e} : Pk C Q [] e env n h = Q e env n h := rfl
@[simp] theorem Pk_sqn {c} : Pk C Q (.sq c :: K) .normal env n h = Wk C Q c K env n h := rfl
@[simp] theorem Pk_sqe {c i} : Pk C Q (.sq c :: K) (.exit i) env n h = Pk C Q K (.exit i) env n h := rfl
@[simp] theorem Pk_sqr {c} : Pk C Q (.sq c :: K) .ret env n h = Pk C Q K .ret env n h := rfl
@[simp] theorem Pk_bln {id} : Pk C Q (.bl id :: K) .normal env n h = Pk C Q K .normal env n h := rfl
@[simp] theorem Pk_ble {id i} : Pk C Q (.bl id :: K) (.exit i) env n h = Pk C Q K (if i = id then .normal else .exit i) env n h := by
  show (if i = id then _ else _) = _
  split <;> rfl
@[simp] theorem Pk_blr {id} : Pk C Q (.bl id :: K) .ret env n h = Pk C Q K .ret env n h := rfl
@[simp] theorem Pk_stn {P} : Pk C Q (.st P :: K) .normal env n h = P env n h := rfl
@[simp] theorem Pk_ste {P i} : Pk C Q (.st P :: K) (.exit i) env n h = Pk C Q K (.exit i) env n h := rfl
@[simp] theorem Pk_str {P} : Pk C Q (.st P :: K) .ret env n h = Pk C Q K .ret env n h := rfl
@[simp] theorem Rk_nil {dr} : Rk C Q dr [] K env n h = Pk C Q K .normal env n h := Rg_nil
@[simp] theorem Rk_cons {dr d i l} : Rk C Q dr (⟨d, none, i⟩ :: l) K env n h = Sk C Q dr d l K env h (iE C dr env n h i) := Rg_step
@[simp] theorem Rk_if {dr d t b i l} : Rk C Q dr (⟨d, some (t, b), i⟩ :: l) K env n h = Gk C Q dr d i l K env n h (env t) b := Rg_if
@[simp] theorem Sk_f {d l v ws n'} : Sk C Q false d l K env h (some (v, ws, n')) = Rk C Q false l K (putO env d v) n' (updW h ws) := by simp [Sk]
@[simp] theorem Sk_t {d l v n'} : Sk C Q true d l K env h (some (v, [], n')) = Rk C Q true l K (putO env d v) n' h := by simp [Sk]
@[simp] theorem Sk_n {dr d l} : Sk C Q dr d l K env h none = False := rfl
/-- A call whose outcome is told by a predicate. -/
theorem Sk_imp {d l res} (P : AV → List (Nat × AO) → Nat → Prop) (hr : ∃ v ws n', res = some (v, ws, n') ∧ P v ws n') (hk : ∀ v ws n', P v ws n' → Rk C Q false l K (putO env d v) n' (updW h ws)) : Sk C Q false d l K env h res := by
  obtain ⟨v, ws, n', e, hp⟩ := hr
  rw [e, Sk_f]
  exact hk v ws n' hp
@[simp] theorem Gk_tt {dr d i l} : Gk C Q dr d i l K env n h (.bool true) true = Rk C Q dr (⟨d, none, i⟩ :: l) K env n h := rfl
@[simp] theorem Gk_tf {dr d i l} : Gk C Q dr d i l K env n h (.bool true) false = Rk C Q dr l K (putO env d .no) n h := rfl
@[simp] theorem Gk_ft {dr d i l} : Gk C Q dr d i l K env n h (.bool false) true = Rk C Q dr l K (putO env d .no) n h := rfl
@[simp] theorem Gk_ff {dr d i l} : Gk C Q dr d i l K env n h (.bool false) false = Rk C Q dr (⟨d, none, i⟩ :: l) K env n h := rfl
@[simp] theorem Gk_no {dr d i l b} : Gk C Q dr d i l K env n h (.tup []) b = Rk C Q dr l K (putO env d .no) n h := rfl
theorem Gk_sel {dr d i l t b} : Gk C Q dr d i l K env n h (.bool t) b = GSk C Q dr d l K env n h t b (iE C dr env n h i) := by
  unfold Gk GSk; rw [Rk_cons]
@[simp] theorem GSk_val {dr d l t b v} : GSk C Q dr d l K env n h t b (some (v, [], n)) = Rk C Q dr l K (putO env d (sel t b v)) n h := by
  unfold GSk Sk sel; cases t <;> cases b <;> simp [guardW]
@[simp] theorem GSk_ite {dr d l t b v} {c : Prop} [Decidable c] : GSk C Q dr d l K env n h t b (v1 n (if c then some v else none)) = ((t = b → c) ∧ Rk C Q dr l K (putO env d (sel t b v)) n h) := by
  apply propext
  by_cases hc : c
  · simp [hc, v1_some']
  · simp only [hc, if_false, v1_none', imp_false]
    unfold GSk Sk sel
    cases t <;> cases b <;> simp [guardW]
theorem GSk_t {dr d l t b res} (ht : t = b) : GSk C Q dr d l K env n h t b res = Sk C Q dr d l K env h res := by
  subst ht; unfold GSk; cases t <;> rfl
theorem GSk_f {dr d l t b res} (ht : t = !b) : GSk C Q dr d l K env n h t b res = Rk C Q dr l K (putO env d .no) n h := by
  subst ht; unfold GSk; cases b <;> rfl
theorem GSk_mk {dr d l t b res} (h1 : t = b → Sk C Q dr d l K env h res) (h2 : t = (!b) → Rk C Q dr l K (putO env d .no) n h) : GSk C Q dr d l K env n h t b res := guardW_mk h1 h2
@[congr] theorem GSk_congr {dr d l env' n' h' t t' b b' res res'} (e1 : env = env') (e2 : n = n') (e3 : h = h') (e4 : t = t') (e5 : b = b') (e6 : t' = b' → res = res') :
    GSk C Q dr d l K env n h t b res = GSk C Q dr d l K env' n' h' t' b' res' := by
  subst e1 e2 e3 e4 e5
  by_cases ht : t = b
  · rw [e6 ht]
  · have ht : t = !b := by cases t <;> cases b <;> simp_all
    rw [GSk_f ht, GSk_f ht]
def GSk2 (C : Ctx) (Q : Ex → Env → Nat → Hp → Prop) (dr : Bool) (d : Option Nat) (l : List O) (K : List Fr) (env : Env) (n : Nat) (h : Hp) (t b u c : Bool) (res : Option (AV × List (Nat × AO) × Nat)) : Prop :=
  GSk C Q dr d l K env n h (t == b && u == c) true res
def GSk3 (C : Ctx) (Q : Ex → Env → Nat → Hp → Prop) (dr : Bool) (d : Option Nat) (l : List O) (K : List Fr) (env : Env) (n : Nat) (h : Hp) (t b u c x y : Bool) (res : Option (AV × List (Nat × AO) × Nat)) : Prop :=
  GSk C Q dr d l K env n h (t == b && (u == c && x == y)) true res
theorem Gk_sel2 {dr d i l t b u c} : Gk C Q dr d i l K env n h (sel t b (.bool u)) c = GSk2 C Q dr d l K env n h t b u c (iE C dr env n h i) := by
  unfold GSk2 Gk GSk; rw [Rk_cons]; cases t <;> cases b <;> cases u <;> cases c <;> rfl
theorem Gk_sel3 {dr d i l t b u c x y} : Gk C Q dr d i l K env n h (sel t b (sel u c (.bool x))) y = GSk3 C Q dr d l K env n h t b u c x y (iE C dr env n h i) := by
  unfold GSk3 Gk GSk; rw [Rk_cons]; cases t <;> cases b <;> cases u <;> cases c <;> cases x <;> cases y <;> rfl
theorem sel_sel2 {t b u c : Bool} {v : AV} : sel (t == b && u == c) true v = sel t b (sel u c v) := by cases t <;> cases b <;> cases u <;> cases c <;> rfl
theorem sel_sel3 {t b u c x y : Bool} {v : AV} : sel (t == b && (u == c && x == y)) true v = sel t b (sel u c (sel x y v)) := by cases t <;> cases b <;> cases u <;> cases c <;> cases x <;> cases y <;> rfl
theorem and2 {t b u c : Bool} : (t == b && u == c) = true ↔ (t = b ∧ u = c) := by cases t <;> cases b <;> cases u <;> cases c <;> simp
theorem and3 {t b u c x y : Bool} : (t == b && (u == c && x == y)) = true ↔ (t = b ∧ u = c ∧ x = y) := by cases t <;> cases b <;> cases u <;> cases c <;> cases x <;> cases y <;> simp
@[simp] theorem GSk2_val {dr d l t b u c v} : GSk2 C Q dr d l K env n h t b u c (some (v, [], n)) = Rk C Q dr l K (putO env d (sel t b (sel u c v))) n h := by
  unfold GSk2; rw [GSk_val, sel_sel2]
@[simp] theorem GSk3_val {dr d l t b u c x y v} : GSk3 C Q dr d l K env n h t b u c x y (some (v, [], n)) = Rk C Q dr l K (putO env d (sel t b (sel u c (sel x y v)))) n h := by
  unfold GSk3; rw [GSk_val, sel_sel3]
@[simp] theorem GSk2_ite {dr d l t b u c v} {p : Prop} [Decidable p] : GSk2 C Q dr d l K env n h t b u c (v1 n (if p then some v else none)) = ((t = b → u = c → p) ∧ Rk C Q dr l K (putO env d (sel t b (sel u c v))) n h) := by
  unfold GSk2; rw [GSk_ite, sel_sel2, and2, and_imp]
@[simp] theorem GSk3_ite {dr d l t b u c x y v} {p : Prop} [Decidable p] : GSk3 C Q dr d l K env n h t b u c x y (v1 n (if p then some v else none)) = ((t = b → u = c → x = y → p) ∧ Rk C Q dr l K (putO env d (sel t b (sel u c (sel x y v)))) n h) := by
  unfold GSk3; rw [GSk_ite, sel_sel3, and3, and_imp, and_imp]
@[congr] theorem GSk2_congr {dr d l env' n' h' t t' b b' u u' c c' res res'} (e1 : env = env') (e2 : n = n') (e3 : h = h') (e4 : t = t') (e5 : b = b') (e4' : u = u') (e5' : c = c') (e6 : t' = b' → u' = c' → res = res') :
    GSk2 C Q dr d l K env n h t b u c res = GSk2 C Q dr d l K env' n' h' t' b' u' c' res' := by
  subst e1 e2 e3 e4 e5 e4' e5'
  unfold GSk2
  exact GSk_congr rfl rfl rfl rfl rfl fun q => e6 (and2.1 q).1 (and2.1 q).2
@[congr] theorem GSk3_congr {dr d l env' n' h' t t' b b' u u' c c' x x' y y' res res'} (e1 : env = env') (e2 : n = n') (e3 : h = h') (e4 : t = t') (e5 : b = b') (e4' : u = u') (e5' : c = c') (e7 : x = x') (e8 : y = y') (e6 : t' = b' → u' = c' → x' = y' → res = res') :
    GSk3 C Q dr d l K env n h t b u c x y res = GSk3 C Q dr d l K env' n' h' t' b' u' c' x' y' res' := by
  subst e1 e2 e3 e4 e5 e4' e5' e7 e8
  unfold GSk3
  exact GSk_congr rfl rfl rfl rfl rfl fun q => e6 (and3.1 q).1 (and3.1 q).2.1 (and3.1 q).2.2
theorem Gk_mk {dr d i l t b} (h1 : t = b → Rk C Q dr (⟨d, none, i⟩ :: l) K env n h) (h2 : t = (!b) → Rk C Q dr l K (putO env d .no) n h) : Gk C Q dr d i l K env n h (.bool t) b := guardW_mk h1 h2
@[simp] theorem Ck_t {x y} : Ck C Q x y K env n h (.bool true) = Wk C Q x K env n h := condW_t _ _
@[simp] theorem Ck_f {x y} : Ck C Q x y K env n h (.bool false) = Wk C Q y K env n h := condW_f _ _
attribute [simp low] Gk_sel Gk_sel2 Gk_sel3
theorem Ck_mk {x y t} (h1 : t = true → Wk C Q x K env n h) (h2 : t = false → Wk C Q y K env n h) : Ck C Q x y K env n h (.bool t) := condW_mk h1 h2
@[simp] theorem Vk_nil {ms lgs i} : Vk C Q ms lgs [] i K env n h = (confL ms lgs = true ∧ Pk C Q K .normal env n h) := Rw_nil'
@[simp] theorem Vk_cons {ms lgs d x l i} : Vk C Q ms lgs (⟨d, none, x⟩ :: l) i K env n h = VSk C Q ms lgs (rdI C env h x) d l i K env h (iE C true env n h x) := Rw_cons
@[simp] theorem Vk_if {ms lgs d t b x l i} : Vk C Q ms lgs (⟨d, some (t, b), x⟩ :: l) i K env n h = VGk C Q ms lgs d x l i K env n h (env t) b := Rw_if
@[simp] theorem VSk_s {ms lgs rd d l i v ws n'} : VSk C Q ms lgs rd d l i K env h (some (v, ws, n')) = Vk C Q ms (lgs ++ [⟨i, ws.map (·.1), rd⟩]) l (i + 1) K (putO env d v) n' (updW h ws) := rfl
@[simp] theorem VSk_n {ms lgs rd d l i} : VSk C Q ms lgs rd d l i K env h none = False := rfl
theorem VSk_imp {ms lgs rd d l i res} (P : AV → List (Nat × AO) → Nat → Prop) (hr : ∃ v ws n', res = some (v, ws, n') ∧ P v ws n') (hk : ∀ v ws n', P v ws n' → Vk C Q ms (lgs ++ [⟨i, ws.map (·.1), rd⟩]) l (i + 1) K (putO env d v) n' (updW h ws)) : VSk C Q ms lgs rd d l i K env h res := by
  obtain ⟨v, ws, n', e, hp⟩ := hr
  rw [e, VSk_s]
  exact hk v ws n' hp
@[simp] theorem VGk_tt {ms lgs d x l i} : VGk C Q ms lgs d x l i K env n h (.bool true) true = Vk C Q ms lgs (⟨d, none, x⟩ :: l) i K env n h := rfl
@[simp] theorem VGk_tf {ms lgs d x l i} : VGk C Q ms lgs d x l i K env n h (.bool true) false = Vk C Q ms (lgs ++ [⟨i, [], some []⟩]) l (i + 1) K (putO env d .no) n h := rfl
@[simp] theorem VGk_ft {ms lgs d x l i} : VGk C Q ms lgs d x l i K env n h (.bool false) true = Vk C Q ms (lgs ++ [⟨i, [], some []⟩]) l (i + 1) K (putO env d .no) n h := rfl
@[simp] theorem VGk_ff {ms lgs d x l i} : VGk C Q ms lgs d x l i K env n h (.bool false) false = Vk C Q ms lgs (⟨d, none, x⟩ :: l) i K env n h := rfl
@[simp] theorem VGk_no {ms lgs d x l i b} : VGk C Q ms lgs d x l i K env n h (.tup []) b = Vk C Q ms (lgs ++ [⟨i, [], some []⟩]) l (i + 1) K (putO env d .no) n h := rfl
theorem VGk_mk {ms lgs d x l i t b} (h1 : t = b → Vk C Q ms lgs (⟨d, none, x⟩ :: l) i K env n h) (h2 : t = (!b) → Vk C Q ms (lgs ++ [⟨i, [], some []⟩]) l (i + 1) K (putO env d .no) n h) : VGk C Q ms lgs d x l i K env n h (.bool t) b := guardW_mk h1 h2
/-- Two ways that meet again: what holds there. -/
theorem Ck_join {x y c t} (P : Env → Nat → Hp → Prop) (h1 : t = true → Wk C Q x (.st P :: K) env n h) (h2 : t = false → Wk C Q y (.st P :: K) env n h) (h3 : ∀ env n h, P env n h → Wk C Q c K env n h) : Ck C Q x y (.sq c :: K) env n h (.bool t) := by
  have key : ∀ z, Wk C Q z (.st P :: K) env n h → Wk C Q z (.sq c :: K) env n h := fun z w => Wp.mono w fun e env n h q => by
    cases e with
    | normal => exact h3 _ _ _ q
    | exit i => exact q
    | ret => exact q
  exact Ck_mk (fun q => key _ (h1 q)) fun q => key _ (h2 q)
theorem Ck_joinB {x y c t id} (P : Env → Nat → Hp → Prop) (h1 : t = true → Wk C Q x (.bl id :: .st P :: K) env n h) (h2 : t = false → Wk C Q y (.bl id :: .st P :: K) env n h) (h3 : ∀ env n h, P env n h → Wk C Q c K env n h) : Ck C Q x y (.bl id :: .sq c :: K) env n h (.bool t) := by
  have k1 : ∀ e env n h, post C Q (.st P :: K) e env n h → post C Q (.sq c :: K) e env n h := fun e env n h q => by
    cases e with
    | normal => exact h3 _ _ _ q
    | exit i => exact q
    | ret => exact q
  have key : ∀ z, Wk C Q z (.bl id :: .st P :: K) env n h → Wk C Q z (.bl id :: .sq c :: K) env n h := fun z w => Wp.mono w fun e env n h q => by
    cases e with
    | normal => exact k1 .normal _ _ _ q
    | exit i =>
      show (if i = id then _ else _)
      have q' : (if i = id then post C Q (.st P :: K) .normal env n h else post C Q (.st P :: K) (.exit i) env n h) := q
      split at q'
      · rename_i hi; rw [if_pos hi]; exact k1 _ _ _ _ q'
      · rename_i hi; rw [if_neg hi]; exact k1 _ _ _ _ q'
    | ret => exact q
  exact Ck_mk (fun q => key _ (h1 q)) fun q => key _ (h2 q)
/-- The same where a piece of code stands first. -/
theorem Wk_cut {x c} (P : Env → Nat → Hp → Prop) (h1 : Wk C Q x (.st P :: K) env n h) (h3 : ∀ env n h, P env n h → Wk C Q c K env n h) : Wk C Q x (.sq c :: K) env n h :=
  Wp.mono h1 fun e env n h q => by
    cases e with
    | normal => exact h3 _ _ _ q
    | exit i => exact q
    | ret => exact q
theorem Wk_cutB {x c id} (P : Env → Nat → Hp → Prop) (h1 : Wk C Q x (.bl id :: .st P :: K) env n h) (h3 : ∀ env n h, P env n h → Wk C Q c K env n h) : Wk C Q x (.bl id :: .sq c :: K) env n h := by
  have k1 : ∀ e env n h, post C Q (.st P :: K) e env n h → post C Q (.sq c :: K) e env n h := fun e env n h q => by
    cases e with
    | normal => exact h3 _ _ _ q
    | exit i => exact q
    | ret => exact q
  refine Wp.mono h1 fun e env n h q => ?_
  cases e with
  | normal => exact k1 .normal _ _ _ q
  | exit i =>
    show (if i = id then _ else _)
    have q' : (if i = id then post C Q (.st P :: K) .normal env n h else post C Q (.st P :: K) (.exit i) env n h) := q
    split at q'
    · rename_i hi; rw [if_pos hi]; exact k1 _ _ _ _ q'
    · rename_i hi; rw [if_neg hi]; exact k1 _ _ _ _ q'
  | ret => exact q
/-- A loop: what holds at its head, and a number that falls. -/
def Again (I : Nat → Env → Nat → Hp → Prop) (k : Nat) (env : Env) (n : Nat) (h : Hp) : Prop := ∃ k', k' < k ∧ I k' env n h
theorem Wk_st {c} {P P' : Env → Nat → Hp → Prop} (hp : ∀ env n h, P env n h → P' env n h) (w : Wk C Q c (.st P :: K) env n h) : Wk C Q c (.st P' :: K) env n h := by
  refine Wp.mono w fun e env n h q => ?_
  cases e with
  | normal => exact hp _ _ _ q
  | exit i => exact q
  | ret => exact q
theorem Wk_loop {c} (I : Nat → Env → Nat → Hp → Prop) (k : Nat) (h0 : I k env n h) (hI : ∀ k env n h, I k env n h → Wk C Q c (.st (Again I k) :: K) env n h) : Wk C Q (.loop c) K env n h :=
  Wp_loop I hI k h0
end

/-! ### results -/
inductive RX where
  | t (n : Nat)
  | c (n : Nat) (r : RD)
def loadC1 (r : RD) (h : Hp) : AV → Option AV
  | .ptr id i o => match h id with
    | .row es _ => match es[i]? with
      | some e => rd r (e.drop o)
      | none => none
    | _ => none
  | _ => none
def resX (env : Env) (h : Hp) : RX → Option AV
  | .t n => some (env n)
  | .c n r => loadC1 r h (env n)
def resXs (env : Env) (h : Hp) : List RX → Option (List AV)
  | [] => some []
  | r :: rs => match resX env h r, resXs env h rs with
    | some v, some vs => some (v :: vs)
    | _, _ => none
def compRS (P : Program) : List ResultVar → Option (List RX)
  | [] => some []
  | .tmp t :: rs => (compRS P rs).map (.t t :: ·)
  | .cell a t :: rs => match compRD P t, compRS P rs with
    | some r, some l => some (.c a r :: l)
    | _, _ => none
theorem rd_ok {P : Program} {t : TypeId} {r : RD} (h : compRD P t = some r) (cells : List AV) : readAt P t cells = rd r cells := by
  unfold compRD at h
  unfold readAt
  split at h
  · rename_i h1
    simp only [Option.map_eq_some_iff] at h
    obtain ⟨n, h2, rfl⟩ := h
    simp only [h1, h2, rd]
  · rename_i h1; cases h; simp only [h1, rd]
  · cases h
theorem resXs_ok {P : Program} {env : Env} {h : Hp} : ∀ {rs : List ResultVar} {l : List RX}, compRS P rs = some l → resVs P env h rs = resXs env h l := by
  intro rs
  induction rs with
  | nil => intro l hl; simp only [compRS] at hl; cases hl; rfl
  | cons r rs ih =>
    intro l hl
    cases r with
    | tmp t =>
      simp only [compRS, Option.map_eq_some_iff] at hl
      obtain ⟨l', h1, rfl⟩ := hl
      simp only [resVs, resV, resXs, resX, ih h1]
      cases resXs env h l' <;> rfl
    | cell a t =>
      simp only [compRS] at hl
      split at hl
      · rename_i r l' h1 h2
        cases hl
        simp only [resVs, resXs, ih h2]
        have : resV P env h (.cell a t) = resX env h (.c a r) := by
          simp only [resV, resX]
          cases henv : env a <;> simp only [henv, loadC1]
          rename_i id i o
          cases h id <;> simp only []
          rename_i es fr
          cases es[i]? <;> simp only [rd_ok h1]
        rw [this]
        cases resX env h (.c a r) <;> cases resXs env h l' <;> rfl
      · cases hl

/-- A function's run ends with this answer. -/
def doneQ (r : List RX) (v : AV) : Ex → Env → Nat → Hp → Prop
  | .exit _, _, _, _ => False
  | _, env, _, h => optW (resXs env h r) fun vs => optW (snap h snapD (packV vs)) fun x => x.1 = v
def res1 (h : Hp) : Option (List AV) → Option (AV × List Nat)
  | some vs => snap h snapD (packV vs)
  | none => none
def res2 (v : AV) : Option (AV × List Nat) → Prop
  | some x => x.1 = v
  | none => False
@[simp] theorem res1_s {h vs} : res1 h (some vs) = snap h snapD (packV vs) := rfl
@[simp] theorem res2_s {v x ids} : res2 v (some (x, ids)) = (x = v) := rfl
theorem res12 {h v o} : (optW o fun vs => optW (snap h snapD (packV vs)) fun x => x.1 = v) = res2 v (res1 h o) := by
  cases o with
  | none => rfl
  | some vs => simp only [optW_some, res1_s]; cases snap h snapD (packV vs) <;> rfl
@[simp] theorem doneQ_n {r v env n h} : doneQ r v .normal env n h = res2 v (res1 h (resXs env h r)) := res12
@[simp] theorem doneQ_r {r v env n h} : doneQ r v .ret env n h = res2 v (res1 h (resXs env h r)) := res12
def h0 : Hp := fun _ => .dead
def FnW (C : Ctx) (c : CC) (r : List RX) (args : List AV) (v : AV) : Prop := Wk C (doneQ r v) c [] (initE args) 0 h0

/-- What is asked of a function's text. -/
structure Fx (P : Program) (f : FuncId) (cc : CC) (r : List RX) : Prop where
  ex : ∃ rs, Fn P f cc rs ∧ compRS P rs = some r
theorem Fx.of {P : Program} {f : FuncId} {fn : Func} (imp : FuncId → Bool) {cc : CC} {r : List RX} (h1 : P.funcs[f]? = some fn) (h2 : fn.body.isSome = true) (h3 : (fn.name == "runtime.NumGoroutine") = false) (h4 : codeOK fn.ntmps (bodyOf fn) = true)
    (h5 : comp imp P (bodyOf fn) = some cc) (h6 : compRS P fn.results.toList = some r) : Fx P f cc r := ⟨fn.results.toList, Fn.of imp h1 h2 h3 h4 h5 rfl, h6⟩
theorem FnW.ok {C : Ctx} {c : CC} {rs : List ResultVar} {r : List RX} {args : List AV} {v : AV} (hr : compRS C.P rs = some r) (h : FnW C c r args v) : fnC C c rs args = some v := by
  obtain ⟨e, s', h1, h2⟩ := h
  unfold fnC
  unfold h0 at h1
  rw [h1]
  have key : (optW (resXs s'.env s'.h r) fun vs => optW (snap s'.h snapD (packV vs)) fun x => x.1 = v) → (match resVs C.P s'.env s'.h rs with | some vs => (snap s'.h snapD (packV vs)).map (·.1) | none => none) = some v := by
    intro h
    rw [resXs_ok hr]
    unfold optW at h
    split at h
    · rename_i vs hvs
      rw [hvs]
      simp only
      split at h
      · rename_i x hx; rw [hx]; simp [h]
      · exact h.elim
    · exact h.elim
  cases e with
  | normal => exact key h2
  | exit i => exact h2.elim
  | ret => exact key h2
/-- A function's answer, shown by its run. -/
theorem PS.of {C : Ctx} (hT : TabOK C) (hm : C.P.follows .mixedOrders = true) {f : FuncId} {cc : CC} {r : List RX} (hf : Fx C.P f cc r) {G : List AV → Option AV} (hG : ∀ args v, G args = some v → FnW C cc r args v) : PS C.P C.gl f G := by
  obtain ⟨rs, h1, h2⟩ := hf.ex
  exact pure_of_fnC hT hm h1 fun args v hv => (hG args v hv).ok h2
end Go.Pv
