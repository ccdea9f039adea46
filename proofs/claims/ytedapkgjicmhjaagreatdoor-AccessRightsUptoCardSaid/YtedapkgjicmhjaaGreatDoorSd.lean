/- A part of the proof that AccessRights returns true wherever its input is of bulk at most 1048576: what the functions that it reaches answer. No theorem of the claim stands here. -/
import Derived.Test.YtedapkgjicmhjaaGreatDoorSc
namespace Go.Pv.T
open Go Go.Pv
set_option linter.unusedSimpArgs false
set_option linter.unusedVariables false

/-! ### which groups contain which -/
abbrev Nm := List UInt8
def childs (l : List Group) (nm : Nm) : List Nm := match fnd l nm with
  | some g => g.groups
  | none => []
inductive Reach (l : List Group) : Nm → Nm → Prop
  | one {a b} (h : b ∈ childs l a) : Reach l a b
  | step {a b c} (h : b ∈ childs l a) (r : Reach l b c) : Reach l a c
theorem Reach.trans {l a b c} (h : Reach l a b) (k : Reach l b c) : Reach l a c := by
  induction h with
  | one h => exact .step h k
  | step h _ ih => exact .step h (ih k)
theorem childs_group {l : List Group} {a b : Nm} (h : b ∈ childs l a) : ∃ g ∈ l, g.name = a := by
  unfold childs at h
  split at h
  · rename_i g hg
    have := List.find?_some hg
    exact ⟨g, List.mem_of_find?_eq_some hg, by simpa using this⟩
  · simp at h
/-- A set that holds the children of all that it holds. -/
def Closed (l : List Group) (S : List Nm) : Prop := ∀ a ∈ S, ∀ b ∈ childs l a, b ∈ S
theorem Closed.reach {l S a b} (hS : Closed l S) (ha : ∀ x ∈ childs l a, x ∈ S) (h : Reach l a b) : b ∈ S := by
  induction h with
  | one h => exact ha _ h
  | step h _ ih => exact ih fun x hx => hS _ (ha _ h) x hx

theorem bytesLess_irr (a b : List UInt8) (h1 : Op.bytesLess a b = false) (h2 : Op.bytesLess b a = false) : a = b := by
  induction a generalizing b with
  | nil => cases b with
    | nil => rfl
    | cons y b => simp [Op.bytesLess] at h1
  | cons x a ih =>
    cases b with
    | nil => simp [Op.bytesLess] at h2
    | cons y b =>
      simp only [Op.bytesLess] at h1 h2
      by_cases hxy : x = y
      · subst hxy
        simp at h1 h2
        rw [ih b h1 h2]
      · have hyx : ¬ y = x := fun q => hxy q.symm
        simp [hxy, hyx] at h1 h2
        exact absurd (UInt8.le_antisymm h2 h1) hxy
def putT (s : Nm) : List Nm → List Nm
  | [] => [s]
  | x :: r => if Op.bytesLess x s = false then (if (Op.bytesLess x s || x == s) = false then s :: x :: r else x :: r) else x :: putT s r
theorem putT_mem (s y : Nm) (l : List Nm) : y ∈ putT s l ↔ y ∈ l ∨ y = s := by
  induction l with
  | nil => simp [putT]
  | cons x r ih =>
    unfold putT
    by_cases h1 : Op.bytesLess x s = false
    · rw [if_pos h1]
      by_cases h2 : (Op.bytesLess x s || x == s) = false
      · rw [if_pos h2]
        simp only [List.mem_cons]
        constructor
        · rintro (h | h | h)
          · exact .inr h
          · exact .inl (.inl h)
          · exact .inl (.inr h)
        · rintro ((h | h) | h)
          · exact .inr (.inl h)
          · exact .inr (.inr h)
          · exact .inl h
      · rw [if_neg h2]
        have : x = s := by rw [h1] at h2; simpa using h2
        simp only [List.mem_cons]
        constructor
        · intro h; exact .inl h
        · rintro (h | h)
          · exact h
          · exact .inl (h.trans this.symm)
    · rw [if_neg h1]
      simp only [List.mem_cons, ih]
      constructor
      · rintro (h | h | h)
        · exact .inl (.inl h)
        · exact .inl (.inr h)
        · exact .inr h
      · rintro ((h | h) | h)
        · exact .inl h
        · exact .inr (.inl h)
        · exact .inr (.inr h)
def putAll (o : List Nm) (ss : List Nm) : List Nm := ss.foldl (fun o s => putT s o) o
theorem putAll_mem (ss : List Nm) : ∀ (o : List Nm) (y : Nm), y ∈ putAll o ss ↔ y ∈ o ∨ y ∈ ss := by
  induction ss with
  | nil => intro o y; simp [putAll]
  | cons s r ih =>
    intro o y
    show y ∈ putAll (putT s o) r ↔ _
    rw [ih, putT_mem]
    simp only [List.mem_cons]
    constructor
    · rintro ((h | h) | h)
      · exact .inl h
      · exact .inr (.inl h)
      · exact .inr (.inr h)
    · rintro (h | h | h)
      · exact .inl (.inl h)
      · exact .inl (.inr h)
      · exact .inr h
def belowF (l : List Group) (o : List Nm) (names : List Nm) : List Nm := names.foldl (fun o nm => putAll o (childs l nm)) o
def belowS (l : List Group) (names : List Nm) : List Nm := belowF l names names
theorem belowF_mem (l : List Group) (names : List Nm) : ∀ (o : List Nm) (y : Nm), y ∈ belowF l o names ↔ y ∈ o ∨ ∃ a ∈ names, y ∈ childs l a := by
  induction names with
  | nil => intro o y; simp [belowF]
  | cons s r ih =>
    intro o y
    show y ∈ belowF l (putAll o (childs l s)) r ↔ _
    rw [ih, putAll_mem]
    simp only [List.mem_cons, exists_eq_or_imp]
    constructor
    · rintro ((h | h) | h)
      · exact .inl h
      · exact .inr (.inl h)
      · exact .inr (.inr h)
    · rintro (h | h | h)
      · exact .inl (.inl h)
      · exact .inl (.inr h)
      · exact .inr h
theorem belowS_mem (l : List Group) (names : List Nm) (y : Nm) : y ∈ belowS l names ↔ y ∈ names ∨ ∃ a ∈ names, y ∈ childs l a := belowF_mem l names names y
def itS (l : List Group) : Nat → List Nm → List Nm
  | 0, S => S
  | k + 1, S => belowS l (itS l k S)
def insideS (l : List Group) (nm : Nm) : List Nm := itS l l.length (putAll [] (childs l nm))
theorem countP_eq {α : Type} {p q : α → Bool} : ∀ {l : List α}, (∀ x ∈ l, p x = true → q x = true) → l.countP q ≤ l.countP p → ∀ x ∈ l, q x = true → p x = true := by
  intro l
  induction l with
  | nil => intro _ _ x hx; simp at hx
  | cons a r ih =>
    intro h hc x hx hq
    have hle : r.countP p ≤ r.countP q := List.countP_mono_left fun x hx => h x (by simp [hx])
    rw [List.countP_cons, List.countP_cons] at hc
    have ha : q a = true → p a = true := by
      intro qa
      cases hp : p a with
      | true => rfl
      | false => simp [qa, hp] at hc; omega
    rcases List.mem_cons.1 hx with rfl | hx
    · exact ha hq
    · refine ih (fun x hx => h x (by simp [hx])) ?_ x hx hq
      cases hp : p a <;> cases hqa : q a
      · simp [hp, hqa] at hc; exact hc
      · have := ha hqa; rw [hp] at this; cases this
      · have := h a (by simp) hp; rw [hqa] at this; cases this
      · simp [hp, hqa] at hc; exact hc
def cnt (l : List Group) (S : List Nm) : Nat := l.countP fun g => decide (g.name ∈ S)
theorem cnt_le (l : List Group) (S : List Nm) : cnt l S ≤ l.length := List.countP_le_length
theorem itS_mono {l : List Group} {S : List Nm} {k : Nat} {y : Nm} (h : y ∈ itS l k S) : y ∈ itS l (k + 1) S := (belowS_mem l _ y).2 (.inl h)
theorem closed_of {l : List Group} {S : List Nm} (h : cnt l (belowS l S) ≤ cnt l S) : Closed l (belowS l S) := by
  intro a ha b hb
  obtain ⟨g, hg, rfl⟩ := childs_group hb
  have := countP_eq (l := l) (p := fun g : Group => decide (g.name ∈ S)) (q := fun g : Group => decide (g.name ∈ belowS l S)) (fun x _ hx => by simp at hx ⊢; exact (belowS_mem l S _).2 (.inl hx)) h g hg (by simpa using ha)
  exact (belowS_mem l S b).2 (.inr ⟨g.name, by simpa using this, hb⟩)
theorem closed_step {l : List Group} {S : List Nm} (h : Closed l S) : Closed l (belowS l S) := by
  intro a ha b hb
  have haS : a ∈ S := by
    rcases (belowS_mem l S a).1 ha with q | ⟨c, hc, q⟩
    · exact q
    · exact h c hc a q
  exact (belowS_mem l S b).2 (.inl (h a haS b hb))
theorem itS_grow {l : List Group} {S : List Nm} : ∀ k, Closed l (itS l k S) ∨ k + 1 ≤ cnt l (itS l k S) := by
  intro k
  induction k with
  | zero =>
    by_cases h : cnt l (itS l 0 S) = 0
    · left
      intro a ha b hb
      obtain ⟨g, hg, rfl⟩ := childs_group hb
      have := List.countP_eq_zero.1 h g hg
      simp at this
      exact absurd ha this
    · right; omega
  | succ k ih =>
    rcases ih with q | q
    · exact .inl (closed_step q)
    · by_cases h : cnt l (itS l (k + 1) S) ≤ cnt l (itS l k S)
      · exact .inl (closed_of h)
      · right; omega
theorem inside_closed (l : List Group) (nm : Nm) : Closed l (insideS l nm) := by
  rcases itS_grow (l := l) (S := putAll [] (childs l nm)) l.length with q | q
  · exact q
  · have := cnt_le l (itS l l.length (putAll [] (childs l nm))); omega
theorem itS_sub {l : List Group} {S : List Nm} {y : Nm} (h : y ∈ S) : ∀ k, y ∈ itS l k S := by
  intro k
  induction k with
  | zero => exact h
  | succ k ih => exact itS_mono ih
theorem inside_mem (l : List Group) (nm y : Nm) : y ∈ insideS l nm ↔ Reach l nm y := by
  constructor
  · have : ∀ k y, y ∈ itS l k (putAll [] (childs l nm)) → Reach l nm y := by
      intro k
      induction k with
      | zero => intro y h; exact .one (by simpa [itS, putAll_mem] using h)
      | succ k ih =>
        intro y h
        rcases (belowS_mem l _ y).1 h with q | ⟨a, ha, q⟩
        · exact ih y q
        · exact (ih a ha).trans (.one q)
    exact this _ y
  · intro h
    exact (inside_closed l nm).reach (fun x hx => itS_sub ((putAll_mem _ _ _).2 (.inr hx)) _) h

/-! ### how deep groups are nested -/
def Acyc (l : List Group) : Prop := ∀ g ∈ l, ¬ Reach l g.name g.name
open Classical in
/-- How many groups lie below. -/
noncomputable def mz (l : List Group) (nm : Nm) : Nat := l.countP fun g => decide (Reach l nm g.name)
theorem mz_le (l : List Group) (nm : Nm) : mz l nm ≤ l.length := List.countP_le_length
open Classical in
theorem mz_lt {l : List Group} (hA : Acyc l) {a b : Nm} (h : b ∈ childs l a) {g : Group} (hg : g ∈ l) (hb : g.name = b) : mz l b < mz l a := by
  by_cases hq : mz l a ≤ mz l b
  · have := countP_eq (l := l) (p := fun g : Group => decide (Reach l b g.name)) (q := fun g : Group => decide (Reach l a g.name)) (fun x _ hx => by simp at hx ⊢; exact .step h hx) hq g hg (by simp; exact hb ▸ .one h)
    simp at this
    rw [hb] at this
    exact absurd (hb ▸ this) (hA g hg)
  · omega
def maxF (f : Nm → Nat) (ns : List Nm) : Nat := ns.foldl (fun m n => max m (f n)) 0
def depF (l : List Group) : Nat → Nm → Nat
  | 0, _ => 0
  | k + 1, nm => match fnd l nm with
    | none => 0
    | some g => maxF (depF l k) g.groups + 1
theorem maxF_congr {f g : Nm → Nat} {ns : List Nm} (h : ∀ n ∈ ns, f n = g n) : maxF f ns = maxF g ns := by
  unfold maxF
  generalize 0 = m0
  induction ns generalizing m0 with
  | nil => rfl
  | cons a r ih =>
    simp only [List.foldl_cons, h a (by simp)]
    exact ih (fun n hn => h n (by simp [hn])) _
theorem fnd_mem {l : List Group} {nm : Nm} {g : Group} (h : fnd l nm = some g) : g ∈ l ∧ g.name = nm := ⟨List.mem_of_find?_eq_some h, by have := List.find?_some h; simpa using this⟩
theorem depF_stable {l : List Group} (hA : Acyc l) : ∀ (k j : Nat) (nm : Nm), mz l nm < k → mz l nm < j → depF l k nm = depF l j nm := by
  intro k
  induction k with
  | zero => intro j nm h; omega
  | succ k ih =>
    intro j nm h1 h2
    obtain ⟨j, rfl⟩ : ∃ i, j = i + 1 := ⟨j - 1, by omega⟩
    simp only [depF]
    cases hf : fnd l nm with
    | none => rfl
    | some g =>
      simp only
      congr 1
      refine maxF_congr fun n hn => ?_
      have hc : n ∈ childs l nm := by simp [childs, hf, hn]
      cases hfn : fnd l n with
      | none =>
        cases k <;> cases j <;> simp [depF, hfn]
      | some g' =>
        obtain ⟨q1, q2⟩ := fnd_mem hfn
        have := mz_lt hA hc q1 q2
        exact ih j n (by omega) (by omega)
def depth (l : List Group) (nm : Nm) : Nat := depF l (l.length + 1) nm
theorem depth_eq {l : List Group} (hA : Acyc l) {nm : Nm} : depth l nm = match fnd l nm with
    | none => 0
    | some g => maxF (depth l) g.groups + 1 := by
  unfold depth
  rw [depF]
  cases hf : fnd l nm with
  | none => rfl
  | some g =>
    simp only
    congr 1
    refine maxF_congr fun n hn => ?_
    have hc : n ∈ childs l nm := by simp [childs, hf, hn]
    cases hfn : fnd l n with
    | none => cases l.length <;> simp [depF, hfn]
    | some g' =>
      obtain ⟨q1, q2⟩ := fnd_mem hfn
      have := mz_lt hA hc q1 q2
      have := mz_le l nm
      have := mz_le l n
      exact depF_stable hA _ _ n (by omega) (by omega)
end Go.Pv.T
namespace Go.Pv.T
open Go Go.Pv
set_option linter.unusedSimpArgs false
set_option linter.unusedVariables false

def eS (s : Nm) : List AV := [.str s]
theorem eS_fix (l : List Nm) : ∀ e ∈ l.map eS, ∀ x ∈ e, Fix1 x := by
  intro e he x hx
  simp only [List.mem_map] at he
  obtain ⟨p, _, rfl⟩ := he
  simp [eS] at hx; subst hx; simp
theorem eS_seq (l : List Nm) : seqO dStr (l.map eS) = some l := seqO_map (d := dStr) (f := eS) (fun x => rfl) l
theorem growS {h : Hp} {n : Nat} {v : AV} {l : List Nm} (o : OwnZ h 0 n 1 v (l.map eS)) (hl : l.length ≤ 1000000) (s : Nm) {n0 : Nat} (h' : Hp) (hn : n ≤ n0) (hh : ∀ j, j < n → h' j = h j) :
    ∃ v' ws, appendC 1 v (.arr n0 0 1 1 1 false) (n0 + 1) (upd h' n0 (.row [[.str s]] false)) = some (v', ws, n0 + 1 + 1) ∧ OwnZ (updW (upd h' n0 (.row [[.str s]] false)) ws) 0 (n0 + 1 + 1) 1 v' ((l ++ [s]).map eS) := by
  obtain ⟨v', ws, e, o', hk⟩ := OwnZ.append (n := n0 + 1) (x := .arr n0 0 1 1 1 false) (new := [eS s]) (o.keep (h' := upd h' n0 (.row [[.str s]] false)) (Nat.le_refl _) fun j _ hj => by rw [upd_get, if_neg (by omega), hh j hj]) (by omega) (by omega) (by simp [elsOf, eS]) (by simp) (by simp [lenLim]; omega)
  exact ⟨v', ws, e, .inr (by simpa using o')⟩
def putV (s : Nm) (l : List Nm) : AV := .lst 1 ((putT s l).map eS) false
def G_PutText : List AV → Option AV
  | [x, .str s] => match dStrs x with
    | some l => if l.length ≤ 100000 then some (putV s l) else none
    | none => none
  | _ => none
def Iput (l : List Nm) (s : Nm) (x : AV) (i : Nat) (env : Env) (n : Nat) (h : Hp) : Prop :=
  ∃ (outs : List Nm) (b : Bool) (v5 : AV), outs.length ≤ i + b.toNat ∧ putT s l = outs ++ (if b then l.drop i else putT s (l.drop i)) ∧ env 0 = x ∧ env 1 = .str s ∧ env 5 = v5 ∧ env 6 = .bool b ∧ OwnZ h 0 n 1 v5 (outs.map eS)
set_option maxHeartbeats 4000000 in
theorem w_ref26_PutText {C : Ctx} {x : AV} {l : List Nm} (s : Nm) (hx : dStrs x = some l) (hl : l.length ≤ 100000) : FnW C c_ref26_PutText r_ref26_PutText [x, .str s] (putV s l) := by
  unfold FnW c_ref26_PutText r_ref26_PutText
  generalize hv : putV s l = v
  simp +contextual -implicitDefEqProofs [fillE]
  refine Wk_scan l.length 7 0 (Iput l s x) (by omega) (Nat.zero_le _) (by simp) ⟨[], false, .arr 0 0 0 0 1 false, by simp, by simp, by simp, by simp, by simp, by simp, .inl ⟨0, by simp, rfl, by simp, rfl⟩⟩ ?_ ?_
  · rintro i env n h - hi hw ei ⟨outs, b, v5, h0, h1, g0, g1, g5, g6, hO⟩
    obtain ⟨ca, q1, q2⟩ := dSl_at hx hi
    obtain rfl := dStr_inv q2
    have hd : l.drop i = l[i] :: l.drop (i + 1) := List.drop_eq_getElem_cons hi
    rw [hd] at h1
    cases b with
    | true =>
      simp only [Bool.toNat_true] at h0
      obtain ⟨v', ws, e, o'⟩ := growS hO (by omega) l[i] h (Nat.le_refl _) fun j hj => rfl
      simp +contextual -implicitDefEqProofs [ei, g0, g1, g5, g6, dSl_len hx, hi, q1, fillE, e, hw]
      exact ⟨outs ++ [l[i]], true, v', by simp; omega, by rw [h1]; simp, by simp [g0], by simp [g1], by simp, by simp [g6], o'⟩
    | false =>
      simp only [Bool.false_eq_true, if_false, putT] at h1
      simp only [Bool.toNat_false, Nat.add_zero] at h0
      simp +contextual -implicitDefEqProofs [ei, g0, g1, g5, g6, dSl_len hx, hi, q1, fillE, hw]
      refine Ck_mk ?_ ?_ <;> intro hq
      · have hq1 : Op.bytesLess l[i] s = false := by simpa using hq
        rw [if_pos hq1] at h1
        simp +contextual -implicitDefEqProofs [ei, g0, g1, g5, g6, dSl_len hx, hi, q1, fillE, hw]
        refine Ck_mk ?_ ?_ <;> intro hq2
        · have hq3 : (Op.bytesLess l[i] s || l[i] == s) = false := by simpa using hq2
          rw [if_pos hq3] at h1
          obtain ⟨v', ws, e, o'⟩ := growS hO (by omega) s h (Nat.le_refl _) fun j hj => rfl
          obtain ⟨v'', ws', e', o''⟩ := growS o' (by simp; omega) l[i] _ (Nat.le_refl _) fun j hj => rfl
          simp +contextual -implicitDefEqProofs [ei, g0, g1, g5, g6, dSl_len hx, hi, q1, fillE, e, e', hw]
          exact ⟨outs ++ [s] ++ [l[i]], true, v'', by simp; omega, by rw [h1]; simp, by simp [g0], by simp [g1], by simp, by simp, o''⟩
        · have hq3 : ¬ (Op.bytesLess l[i] s || l[i] == s) = false := by simpa using hq2
          rw [if_neg hq3] at h1
          obtain ⟨v', ws, e, o'⟩ := growS hO (by omega) l[i] h (Nat.le_refl _) fun j hj => rfl
          simp +contextual -implicitDefEqProofs [ei, g0, g1, g5, g6, dSl_len hx, hi, q1, fillE, e, hw]
          exact ⟨outs ++ [l[i]], true, v', by simp; omega, by rw [h1]; simp, by simp [g0], by simp [g1], by simp, by simp, o'⟩
      · have hq1 : ¬ Op.bytesLess l[i] s = false := by simpa using hq
        rw [if_neg hq1] at h1
        obtain ⟨v', ws, e, o'⟩ := growS hO (by omega) l[i] h (Nat.le_refl _) fun j hj => rfl
        simp +contextual -implicitDefEqProofs [ei, g0, g1, g5, g6, dSl_len hx, hi, q1, fillE, e, hw]
        exact ⟨outs ++ [l[i]], false, v', by simp; omega, by rw [h1]; simp, by simp [g0], by simp [g1], by simp, by simp [g6], o'⟩
  · rintro env n h ei ⟨outs, b, v5, h0, h1, g0, g1, g5, g6, hO⟩
    rw [List.drop_length] at h1
    simp +contextual -implicitDefEqProofs [ei, g0, g6, dSl_len hx]
    cases b with
    | true =>
      obtain ⟨ids, q⟩ := hO.snap (eS_fix outs) 10
      simp +contextual -implicitDefEqProofs [g5, q]
      rw [← hv, putV, h1]
      have : outs ≠ [] := by
        intro q'
        rw [q'] at h1
        cases l <;> simp [putT] at h1
        split at h1
        · split at h1 <;> cases h1
        · cases h1
      simp [mkSlZ, this]
    | false =>
      simp only [Bool.toNat_false, Nat.add_zero] at h0
      obtain ⟨v', ws, e, o'⟩ := growS hO (by omega) s h (Nat.le_refl _) fun j hj => rfl
      obtain ⟨ids, q⟩ := o'.snap (eS_fix _) 10
      simp +contextual -implicitDefEqProofs [g1, g5, fillE, e, q]
      rw [← hv, putV, h1]
      simp [mkSlZ, putT]
end Go.Pv.T
namespace Go.Pv.T
open Go Go.Pv
set_option linter.unusedSimpArgs false
set_option linter.unusedVariables false

/-! ### increasing lists of names -/
theorem bytesLess_trans : ∀ (a b c : List UInt8), Op.bytesLess a b = true → Op.bytesLess b c = true → Op.bytesLess a c = true := by
  intro a
  induction a with
  | nil =>
    intro b c h1 h2
    cases b with
    | nil => simp [Op.bytesLess] at h1
    | cons y b => cases c with
      | nil => simp [Op.bytesLess] at h2
      | cons z c => simp [Op.bytesLess]
  | cons x a ih =>
    intro b c h1 h2
    cases b with
    | nil => simp [Op.bytesLess] at h1
    | cons y b =>
      cases c with
      | nil => simp [Op.bytesLess] at h2
      | cons z c =>
        simp only [Op.bytesLess] at h1 h2 ⊢
        by_cases hxy : x = y
        · subst hxy
          by_cases hxz : x = z
          · subst hxz
            simp at h1 h2 ⊢
            exact ih b c h1 h2
          · simp [hxz] at h2 ⊢; exact h2
        · by_cases hyz : y = z
          · subst hyz
            simp [hxy] at h1 ⊢; exact h1
          · simp [hxy] at h1
            simp [hyz] at h2
            have h3 : x < z := UInt8.lt_trans h1 h2
            have h4 : ¬ x = z := fun q => by subst q; exact absurd h3 (UInt8.lt_irrefl x)
            simp [h4, h3]
theorem bytesLess_self (a : List UInt8) : Op.bytesLess a a = false := by
  induction a with
  | nil => rfl
  | cons x a ih => simp [Op.bytesLess, ih]
abbrev Inc (l : List Nm) : Prop := l.Pairwise fun a b => Op.bytesLess a b = true
theorem putT_inc (s : Nm) : ∀ {l : List Nm}, Inc l → Inc (putT s l) := by
  intro l
  induction l with
  | nil => intro _; simp [putT, Inc]
  | cons x r ih =>
    intro h
    have h1 := List.pairwise_cons.1 h
    unfold putT
    by_cases q : Op.bytesLess x s = false
    · rw [if_pos q]
      by_cases q2 : (Op.bytesLess x s || x == s) = false
      · rw [if_pos q2]
        have hsx : Op.bytesLess s x = true := by
          cases hb : Op.bytesLess s x with
          | true => rfl
          | false =>
            have := bytesLess_irr _ _ q hb
            subst this; simp at q2
        refine List.pairwise_cons.2 ⟨fun y hy => ?_, h⟩
        rcases List.mem_cons.1 hy with rfl | hy
        · exact hsx
        · exact bytesLess_trans _ _ _ hsx (h1.1 y hy)
      · rw [if_neg q2]; exact h
    · rw [if_neg q]
      refine List.pairwise_cons.2 ⟨fun y hy => ?_, ih h1.2⟩
      rcases (putT_mem s y r).1 hy with hy | rfl
      · exact h1.1 y hy
      · simpa using q
theorem Inc.nodup {l : List Nm} (h : Inc l) : l.Nodup := by
  refine List.Pairwise.imp (fun {a b} q => ?_) h
  intro e; subst e; rw [bytesLess_self] at q; cases q
theorem nodup_len {α : Type} [BEq α] [LawfulBEq α] : ∀ {a b : List α}, a.Nodup → (∀ x ∈ a, x ∈ b) → a.length ≤ b.length := by
  intro a
  induction a with
  | nil => intro b _ _; simp
  | cons x r ih =>
    intro b hn hs
    have hx := hs x (by simp)
    obtain ⟨h1, h2⟩ := List.nodup_cons.1 hn
    have := ih (b := b.erase x) h2 fun y hy => by
      have hne : y ≠ x := fun e => h1 (e ▸ hy)
      exact (List.mem_erase_of_ne hne).2 (hs y (by simp [hy]))
    rw [List.length_erase_of_mem hx] at this
    have : 0 < b.length := List.length_pos_of_mem hx
    simp only [List.length_cons]; omega
/-- All names that groups name. -/
def univ (l : List Group) : List Nm := l.flatMap (·.groups)
def Small (l : List Group) : Prop := l.length ≤ 16 ∧ ∀ g ∈ l, g.groups.length ≤ 16
theorem flatMap_len : ∀ (l : List Group), (∀ g ∈ l, g.groups.length ≤ 16) → (univ l).length ≤ 16 * l.length := by
  intro l
  induction l with
  | nil => intro _; simp [univ]
  | cons g r ih =>
    intro h
    have h1 := ih fun x hx => h x (by simp [hx])
    have h2 := h g (by simp)
    simp only [univ, List.flatMap_cons, List.length_append, List.length_cons] at h1 ⊢
    omega
theorem univ_len {l : List Group} (h : Small l) : (univ l).length ≤ 256 := by
  have := flatMap_len l h.2
  have := h.1
  omega
theorem childs_univ {l : List Group} {a b : Nm} (h : b ∈ childs l a) : b ∈ univ l := by
  unfold childs at h
  split at h
  · rename_i g hg
    exact List.mem_flatMap.2 ⟨g, (fnd_mem hg).1, h⟩
  · simp at h
/-- Lists as they come up. -/
structure Fine (l : List Group) (o : List Nm) : Prop where
  inc : Inc o
  sub : ∀ y ∈ o, y ∈ univ l
theorem Fine.len {l : List Group} {o : List Nm} (hs : Small l) (h : Fine l o) : o.length ≤ 256 := Nat.le_trans (nodup_len h.inc.nodup h.sub) (univ_len hs)
theorem Fine.nil (l : List Group) : Fine l [] := ⟨List.Pairwise.nil, by simp⟩
theorem Fine.put {l : List Group} {o : List Nm} {a s : Nm} (h : Fine l o) (hs : s ∈ childs l a) : Fine l (putT s o) :=
  ⟨putT_inc s h.inc, fun y hy => by
    rcases (putT_mem s y o).1 hy with q | rfl
    · exact h.sub y q
    · exact childs_univ hs⟩
theorem Fine.putAll {l : List Group} {a : Nm} : ∀ {ss o : List Nm}, Fine l o → (∀ s ∈ ss, s ∈ childs l a) → Fine l (putAll o ss) := by
  intro ss
  induction ss with
  | nil => intro o h _; exact h
  | cons s r ih => intro o h hs; exact ih (o := putT s o) (h.put (hs s (by simp))) fun y hy => hs y (by simp [hy])
theorem Fine.belowF {l : List Group} : ∀ {names o : List Nm}, Fine l o → Fine l (belowF l o names) := by
  intro names
  induction names with
  | nil => intro o h; exact h
  | cons s r ih => intro o h; exact ih (o := Pv.T.putAll o (childs l s)) (h.putAll fun y hy => hy)
theorem ix_cases (l : List Group) (nm : Nm) : (ixOf (fun g : Group => g.name == nm) l = -1 ∧ fnd l nm = none) ∨ ∃ k, ∃ hk : k < l.length, ixOf (fun g : Group => g.name == nm) l = k ∧ fnd l nm = some l[k] := by
  unfold ixOf fnd
  cases h : l.findIdx? (fun g : Group => g.name == nm) with
  | none =>
    left
    refine ⟨rfl, ?_⟩
    rw [List.findIdx?_eq_none_iff] at h
    rw [List.find?_eq_none]
    intro x hx; simp [h x hx]
  | some k =>
    right
    obtain ⟨h1, h2, h3⟩ := List.findIdx?_eq_some_iff_getElem.1 h
    refine ⟨k, h1, rfl, ?_⟩
    exact find_first (List.getElem?_eq_getElem h1) h2 fun j hj x hx => by
      rw [List.getElem?_eq_getElem (by omega)] at hx
      cases hx
      simpa using h3 j hj
theorem childs_none {l : List Group} {nm : Nm} (h : fnd l nm = none) : childs l nm = [] := by simp [childs, h]
theorem childs_some {l : List Group} {nm : Nm} {g : Group} (h : fnd l nm = some g) : childs l nm = g.groups := by simp [childs, h]
def bS (o : List Nm) (b : Bool) : AV := .lst 1 (o.map eS) b
theorem bS_d (o : List Nm) (b : Bool) : dStrs (bS o b) = some o := by simp [dSl, bS, eS_seq]
theorem seqO_eS : ∀ {es : List (List AV)} {o : List Nm}, seqO dStr es = some o → es = o.map eS := by
  intro es
  induction es with
  | nil => intro o h; cases h; rfl
  | cons e r ih =>
    intro o h
    simp only [seqO] at h
    split at h
    · rename_i s l h1 h2
      cases h
      rw [dStr_inv h1, ih h2]; rfl
    · cases h
def noCh (l : List Group) (names : List Nm) : Bool := names.all fun nm => (childs l nm).isEmpty
open Classical in
noncomputable def G_below : List AV → Option AV
  | [x, .lst 1 es b] => match dGroups x, seqO dStr es with
    | some l, some o => if Small l ∧ Fine l o then some (bS (belowS l o) (b && noCh l o)) else none
    | _, _ => none
  | _ => none
theorem G_below_of {x : AV} {l : List Group} (hx : dGroups x = some l) (hs : Small l) {o : List Nm} (ho : Fine l o) (b : Bool) : G_below [x, bS o b] = some (bS (belowS l o) (b && noCh l o)) := by
  simp only [G_below, bS, hx, eS_seq]; rw [if_pos ⟨hs, ho⟩]
theorem putV_bS (s : Nm) (o : List Nm) : putV s o = bS (putT s o) false := rfl
theorem G_PutText_of {o : List Nm} (s : Nm) (b : Bool) (h : o.length ≤ 256) : G_PutText [bS o b, .str s] = some (bS (putT s o) false) := by
  simp only [G_PutText, bS_d]; rw [if_pos (by omega), putV_bS]
theorem bS_fix1 {o b} : Fix1 (bS o b) := .lst _ _ _
theorem bS_fix {o b} : Fix (bS o b) := .one bS_fix1
theorem snoc_all (o : List Nm) (ss : List Nm) (k : Nat) (hk : k < ss.length) : putAll o (ss.take (k + 1)) = putT ss[k] (putAll o (ss.take k)) := by
  rw [List.take_succ_eq_append_getElem hk, putAll, List.foldl_append]; rfl
theorem snoc_below (l : List Group) (o names : List Nm) (k : Nat) (hk : k < names.length) : belowF l o (names.take (k + 1)) = putAll (belowF l o (names.take k)) (childs l names[k]) := by
  rw [List.take_succ_eq_append_getElem hk, belowF, List.foldl_append]; rfl
theorem snoc_no (l : List Group) (names : List Nm) (k : Nat) (hk : k < names.length) : noCh l (names.take (k + 1)) = (noCh l (names.take k) && (childs l names[k]).isEmpty) := by
  rw [List.take_succ_eq_append_getElem hk, noCh, List.all_append]; simp [noCh]
set_option maxHeartbeats 4000000 in
theorem w_ref43_below {C : Ctx} (hA : C.TP i_ref43_at = some G_at) (hP : C.TP i_ref26_PutText = some G_PutText) {x : AV} {l : List Group} (hx : dGroups x = some l) (hs : Small l) {names : List Nm} (hF : Fine l names) (b : Bool) :
    FnW C c_ref43_below r_ref43_below [x, bS names b] (bS (belowS l names) (b && noCh l names)) := by
  unfold FnW c_ref43_below r_ref43_below
  generalize hv : bS (belowS l names) (b && noCh l names) = v
  have hnl := hF.len hs
  have hll : l.length ≤ LI := by have := hs.1; simp only [LI]; omega
  have hnd := bS_d names b
  generalize hy : bS names b = y at hnd
  simp +contextual -implicitDefEqProofs
  obtain ⟨J, hJ⟩ : ∃ J : Nat → Env → Nat → Hp → Prop, J = fun i env n h => FE env [(0, x), (1, y), (5, bS (belowF l names (names.take i)) (b && noCh l (names.take i)))] := ⟨_, rfl⟩
  refine Wk_scan names.length 6 0 J (by omega) (Nat.zero_le _) (by simp) (hJ ▸ by simp [belowF, noCh, hy]) ?_ ?_
  · intro i env n h _ hi hw ei hj
    rw [hJ] at hj
    simp only [FE_cons, FE_nil, and_true] at hj
    obtain ⟨ca, q1, q2⟩ := dSl_at hnd hi
    obtain rfl := dStr_inv q2
    have hG : G_at [x, .str names[i]] = some (.int .i64 (ixOf (fun y => y.name == names[i]) l)) := by simp only [G_at, hx]; rw [if_pos hll]
    have hFi : Fine l (belowF l names (names.take i)) := hF.belowF
    generalize ho : belowF l names (names.take i) = o at *
    generalize hbb : (b && noCh l (names.take i)) = b1 at *
    rcases ix_cases l names[i] with ⟨k1, k2⟩ | ⟨k, hk, k1, k2⟩
    · have hch := childs_none k2
      rw [k1] at hG
      simp +contextual -implicitDefEqProofs [ei, hj, dSl_len hnd, hi, q1, callA_fix hA, dSl_fix hx, hG]
      refine Wk_loop (fun m env' n' h' => FE env' [(0, x), (1, y), (5, bS o b1), (6, .int .i64 i), (7, .int .i64 (-1))]) 0 (by simp [hj, ei]) ?_
      intro m env' n' h' fe
      simp only [FE_cons, FE_nil, and_true] at fe
      simp +contextual -implicitDefEqProofs [fe, hw]
      rw [hJ]
      simp only [FE_cons, FE_nil, and_true]
      refine ⟨by simp [fe], by simp [fe], ?_⟩
      rw [snoc_below l names names i hi, snoc_no l names i hi, hch, ← Bool.and_assoc, hbb, ho]
      simp [fe, putAll]
    · have hch := childs_some k2
      obtain ⟨cg, q3, q4⟩ := dSl_at hx hk
      obtain ⟨u, gs, rfl, a1, a2, a3, a4⟩ := dGroup_inv q4
      rw [k1] at hG
      simp +contextual -implicitDefEqProofs [ei, hj, dSl_len hnd, hi, q1, callA_fix hA, dSl_fix hx, hG]
      obtain ⟨J', hJ'⟩ : ∃ J : Nat → Env → Nat → Hp → Prop, J = fun j env n h => FE env [(0, x), (1, y), (5, bS (putAll o (l[k].groups.take j)) (b1 && decide (j = 0))), (6, .int .i64 i), (7, .int .i64 k)] := ⟨_, rfl⟩
      refine Wk_scan l[k].groups.length 8 0 J' a4 (Nat.zero_le _) (by simp) (hJ' ▸ by simp [hj, ei, putAll]) ?_ ?_
      · intro j env' n' h' _ hjl hw' ej fe
        rw [hJ'] at fe
        simp only [FE_cons, FE_nil, and_true] at fe
        obtain ⟨cs, q5, q6⟩ := dSl_at a2 hjl
        obtain rfl := dStr_inv q6
        have hFo : Fine l (putAll o (l[k].groups.take j)) := hFi.putAll (a := names[i]) fun s hs => by rw [hch]; exact List.mem_of_mem_take hs
        have hPG := G_PutText_of l[k].groups[j] (b1 && decide (j = 0)) (hFo.len hs)
        simp +contextual -implicitDefEqProofs [ej, fe, q3, dSl_len a2, hjl, q5, callA_fix hP, bS_fix, hPG, hw']
        rw [hJ']
        simp only [FE_cons, FE_nil, and_true]
        rw [snoc_all o _ j hjl]
        simp [fe]
      · intro env' n' h' ej fe
        rw [hJ'] at fe
        simp only [FE_cons, FE_nil, and_true] at fe
        simp +contextual -implicitDefEqProofs [ej, fe, q3, dSl_len a2, hw]
        rw [hJ]
        simp only [FE_cons, FE_nil, and_true]
        rw [snoc_below l names names i hi, snoc_no l names i hi, hch, ← Bool.and_assoc, hbb, ho]
        have : decide (l[k].groups.length = 0) = l[k].groups.isEmpty := by cases l[k].groups <;> simp
        rw [← this]
        simp [fe]
  · intro env n h ei hj
    rw [hJ] at hj
    simp only [FE_cons, FE_nil, and_true] at hj
    simp +contextual -implicitDefEqProofs [ei, hj, dSl_len hnd]
    rw [← hv, belowS]
    simp [bS, List.take_length]
end Go.Pv.T
namespace Go.Pv.T
open Go Go.Pv
set_option linter.unusedSimpArgs false
set_option linter.unusedVariables false

theorem Fine.itS {l : List Group} {S : List Nm} (h : Fine l S) : ∀ k, Fine l (itS l k S) := by
  intro k
  induction k with
  | zero => exact h
  | succ k ih => exact ih.belowF
theorem itS_nil (l : List Group) : ∀ k, itS l k [] = [] := by
  intro k
  induction k with
  | zero => rfl
  | succ k ih => rw [itS, ih]; rfl
/-- A list of names, or the empty one that this run made. -/
def Tv (h : Hp) (w : AV) (o : List Nm) (b : Bool) : Prop := w = bS o b ∨ (o = [] ∧ b = true ∧ w = .arr 0 0 0 0 1 false ∧ ∃ fr, h 0 = .row [] fr)
theorem Tv.snap {h : Hp} {w : AV} {o : List Nm} {b : Bool} (t : Tv h w o b) (d : Nat) : ∃ ids, Pv.snap h (d + 2) w = some (bS o b, ids) := by
  rcases t with rfl | ⟨rfl, rfl, rfl, fr, h0⟩
  · exact ⟨[], rfl⟩
  · exact ⟨[0], by rw [snap_arrE (len := 0) (es := []) h0 rfl (by simp)]; simp [bS]⟩
theorem call_T {C : Ctx} {f : FuncId} {F : List AV → Option AV} (hF : C.TP f = some F) {h : Hp} {w : AV} {o : List Nm} {b : Bool} (t : Tv h w o b) {s : Nm} {v : AV} (hv : F [bS o b, .str s] = some v) (n : Nat) : ∃ ws, callA C false f [w, .str s] n h = some (v, ws, n) := by
  obtain ⟨ids, q⟩ := t.snap 10
  obtain ⟨ws, e, _⟩ := callA_freeze (n := n) hF (args := [w, .str s]) (args' := [bS o b, .str s]) (ids := ids) (h := h) (by simp only [snapL, snapLf, q, (Fix1.str s).snap h 11]; simp) hv
  exact ⟨ws, e⟩
theorem call_T2 {C : Ctx} {f : FuncId} {F : List AV → Option AV} (hF : C.TP f = some F) {h : Hp} {x w : AV} (hx : Fix1 x) {o : List Nm} {b : Bool} (t : Tv h w o b) {v : AV} (hv : F [x, bS o b] = some v) (n : Nat) : ∃ ws, callA C false f [x, w] n h = some (v, ws, n) := by
  obtain ⟨ids, q⟩ := t.snap 10
  obtain ⟨ws, e, _⟩ := callA_freeze (n := n) hF (args := [x, w]) (args' := [x, bS o b]) (ids := ids) (h := h) (by simp only [snapL, snapLf, q, hx.snap h 11]; simp) hv
  exact ⟨ws, e⟩
open Classical in
noncomputable def G_inside : List AV → Option AV
  | [x, .str nm] => match dGroups x with
    | some l => if Small l then some (bS (insideS l nm) (childs l nm).isEmpty) else none
    | none => none
  | _ => none
set_option maxHeartbeats 4000000 in
theorem w_ref43_inside {C : Ctx} (hA : C.TP i_ref43_at = some G_at) (hP : C.TP i_ref26_PutText = some G_PutText) (hB : C.TP i_ref43_below = some G_below) {x : AV} {l : List Group} (hx : dGroups x = some l) (hs : Small l) (nm : Nm) :
    FnW C c_ref43_inside r_ref43_inside [x, .str nm] (bS (insideS l nm) (childs l nm).isEmpty) := by
  unfold FnW c_ref43_inside r_ref43_inside
  generalize hv : bS (insideS l nm) (childs l nm).isEmpty = v
  have hll : l.length ≤ LI := by have := hs.1; simp only [LI]; omega
  have hG : G_at [x, .str nm] = some (.int .i64 (ixOf (fun y => y.name == nm) l)) := by simp only [G_at, hx]; rw [if_pos hll]
  have hFi : Fine l (putAll [] (childs l nm)) := (Fine.nil l).putAll (a := nm) fun s hs => hs
  simp +contextual -implicitDefEqProofs [fillE, callA_fix hA, dSl_fix hx, hG]
  refine Wk_cutB (fun env n h => env 0 = x ∧ Tv h (env 5) (putAll [] (childs l nm)) (childs l nm).isEmpty) ?_ ?_
  · rcases ix_cases l nm with ⟨k1, k2⟩ | ⟨k, hk, k1, k2⟩
    · have hch := childs_none k2
      refine Wk_loop (fun m env' n' h' => FE env' [(0, x), (5, .arr 0 0 0 0 1 false), (6, .int .i64 (-1))] ∧ h' 0 = .row [] false) 0 (by simp [k1]) ?_
      rintro m env' n' h' ⟨fe, fh⟩
      simp only [FE_cons, FE_nil, and_true] at fe
      simp +contextual -implicitDefEqProofs [fe, k1]
      rw [hch]
      exact .inr ⟨rfl, rfl, rfl, false, fh⟩
    · have hch := childs_some k2
      obtain ⟨cg, q3, q4⟩ := dSl_at hx hk
      obtain ⟨u, gs, rfl, a1, a2, a3, a4⟩ := dGroup_inv q4
      rw [k1]
      obtain ⟨J', hJ'⟩ : ∃ J : Nat → Env → Nat → Hp → Prop, J = fun j env n h => FE env [(0, x), (6, .int .i64 k)] ∧ Tv h (env 5) (putAll [] (l[k].groups.take j)) (decide (j = 0)) := ⟨_, rfl⟩
      refine Wk_scan l[k].groups.length 7 0 J' a4 (Nat.zero_le _) (by simp) (hJ' ▸ ⟨by simp, .inr ⟨by simp [putAll], rfl, by simp, false, by simp⟩⟩) ?_ ?_
      · intro j env' n' h' _ hjl hw' ej fe
        rw [hJ'] at fe
        obtain ⟨fe, ht⟩ := fe
        simp only [FE_cons, FE_nil, and_true] at fe
        obtain ⟨cs, q5, q6⟩ := dSl_at a2 hjl
        obtain rfl := dStr_inv q6
        have hFo : Fine l (putAll [] (l[k].groups.take j)) := (Fine.nil l).putAll (a := nm) fun s hs => by rw [hch]; exact List.mem_of_mem_take hs
        obtain ⟨ws, e⟩ := call_T hP ht (G_PutText_of l[k].groups[j] (decide (j = 0)) (hFo.len hs)) n'
        simp +contextual -implicitDefEqProofs [ej, fe, q3, dSl_len a2, hjl, q5, e, hw']
        rw [hJ']
        refine ⟨by simp [fe], .inl ?_⟩
        rw [snoc_all [] _ j hjl]
        simp
      · intro env' n' h' ej fe
        rw [hJ'] at fe
        obtain ⟨fe, ht⟩ := fe
        simp only [FE_cons, FE_nil, and_true] at fe
        simp +contextual -implicitDefEqProofs [ej, fe, q3, dSl_len a2]
        rw [List.take_length] at ht
        rw [hch]
        have : decide (l[k].groups.length = 0) = l[k].groups.isEmpty := by cases l[k].groups <;> simp
        rw [← this]
        exact ht
  · rintro env n h ⟨h0, ht⟩
    simp +contextual -implicitDefEqProofs
    obtain ⟨J', hJ'⟩ : ∃ J : Nat → Env → Nat → Hp → Prop, J = fun i env n h => FE env [(0, x)] ∧ Tv h (env 5) (itS l i (putAll [] (childs l nm))) (childs l nm).isEmpty := ⟨_, rfl⟩
    refine Wk_scan l.length 8 0 J' hll (Nat.zero_le _) (by simp) (hJ' ▸ ⟨by simp [h0], by simpa [itS] using ht⟩) ?_ ?_
    · intro i env n h _ hi hw ei fe
      rw [hJ'] at fe
      obtain ⟨fe, ht⟩ := fe
      simp only [FE_cons, FE_nil, and_true] at fe
      have hFo := hFi.itS i
      obtain ⟨ws, e⟩ := call_T2 hB (dSl_fix1 hx) ht (G_below_of hx hs hFo (childs l nm).isEmpty) n
      simp +contextual -implicitDefEqProofs [ei, fe, dSl_len hx, hi, e, hw]
      rw [hJ']
      refine ⟨by simp [fe], .inl ?_⟩
      have : ((childs l nm).isEmpty && noCh l (itS l i (putAll [] (childs l nm)))) = (childs l nm).isEmpty := by
        cases hc : childs l nm with
        | nil => simp [putAll, itS_nil, noCh]
        | cons a r => simp
      rw [this]
      simp [itS]
    · intro env n h ei fe
      rw [hJ'] at fe
      obtain ⟨fe, ht⟩ := fe
      simp only [FE_cons, FE_nil, and_true] at fe
      obtain ⟨ids, q⟩ := ht.snap 10
      simp +contextual -implicitDefEqProofs [ei, fe, dSl_len hx, q]
      rw [← hv, insideS]
end Go.Pv.T
namespace Go.Pv.T
open Go Go.Pv
set_option linter.unusedSimpArgs false
set_option linter.unusedVariables false

/-! ### how deep: the reference -/
theorem maxF_le {f : Nm → Nat} {b : Nat} {ns : List Nm} (h : ∀ n ∈ ns, f n ≤ b) : maxF f ns ≤ b := by
  unfold maxF
  have : ∀ m0, m0 ≤ b → ns.foldl (fun m n => max m (f n)) m0 ≤ b := by
    induction ns with
    | nil => intro m0 h0; exact h0
    | cons a r ih => intro m0 h0; exact ih (fun n hn => h n (by simp [hn])) _ (by have := h a (by simp); show max m0 (f a) ≤ b; omega)
  exact this 0 (Nat.zero_le _)
theorem depF_le (l : List Group) : ∀ k nm, depF l k nm ≤ k := by
  intro k
  induction k with
  | zero => intro nm; simp [depF]
  | succ k ih =>
    intro nm
    rw [depF]
    split
    · omega
    · rename_i g _
      have := maxF_le (f := depF l k) (b := k) (ns := g.groups) fun n _ => ih n
      omega
theorem depth_le (l : List Group) (nm : Nm) : depth l nm ≤ l.length + 1 := depF_le l _ nm
theorem maxF_snoc (f : Nm → Nat) (ns : List Nm) (k : Nat) (hk : k < ns.length) : maxF f (ns.take (k + 1)) = max (maxF f (ns.take k)) (f ns[k]) := by
  rw [List.take_succ_eq_append_getElem hk, maxF, List.foldl_append]; rfl
theorem depth_none {l : List Group} {nm : Nm} (h : fnd l nm = none) : depth l nm = 0 := by unfold depth; rw [depF, h]
open Classical in
noncomputable def G_dep (k : Nat) : List AV → Option AV
  | [x, .str nm] => match dGroups x with
    | some l => if Small l ∧ Acyc l ∧ (fnd l nm = none ∨ mz l nm < k) then some (.int .i64 (depth l nm)) else none
    | none => none
  | _ => none
theorem w_ref43_depth {C : Ctx} {k : Nat} (hA : C.TP i_ref43_at = some G_at) (hD : C.TP i_ref43_depth = some (G_dep k)) {x : AV} {l : List Group} (hx : dGroups x = some l) (hs : Small l) (hc : Acyc l) (nm : Nm) (hk : fnd l nm = none ∨ mz l nm < k + 1) :
    FnW C c_ref43_depth r_ref43_depth [x, .str nm] (.int .i64 (depth l nm)) := by
  unfold FnW c_ref43_depth r_ref43_depth
  generalize hv : AV.int .i64 (depth l nm) = v
  have hll : l.length ≤ LI := by have := hs.1; simp only [LI]; omega
  have hG : G_at [x, .str nm] = some (.int .i64 (ixOf (fun y => y.name == nm) l)) := by simp only [G_at, hx]; rw [if_pos hll]
  rcases ix_cases l nm with ⟨k1, k2⟩ | ⟨p, hp, k1, k2⟩
  · rw [k1] at hG
    simp +contextual -implicitDefEqProofs [callA_fix hA, dSl_fix hx, hG]
    rw [← hv, depth_none k2]; rfl
  · rw [k1] at hG
    obtain ⟨cg, q3, q4⟩ := dSl_at hx hp
    obtain ⟨u, gs, rfl, a1, a2, a3, a4⟩ := dGroup_inv q4
    have hpneg : ¬ (p : Int) < 0 := by omega
    have hmz : mz l nm < k + 1 := by rcases hk with h | h; rw [k2] at h; cases h; exact h
    have hde := depth_eq hc (nm := nm)
    rw [k2] at hde
    simp only at hde
    simp +contextual -implicitDefEqProofs [callA_fix hA, dSl_fix hx, hG, hpneg]
    obtain ⟨J', hJ'⟩ : ∃ J : Nat → Env → Nat → Hp → Prop, J = fun j env n h => FE env [(0, x), (5, .int .i64 p), (6, .int .i64 (maxF (depth l) (l[p].groups.take j)))] := ⟨_, rfl⟩
    refine Wk_scan l[p].groups.length 7 0 J' a4 (Nat.zero_le _) (by simp) (hJ' ▸ by simp [maxF]) ?_ ?_
    · intro j env n h _ hj hw ej fe
      rw [hJ'] at fe
      simp only [FE_cons, FE_nil, and_true] at fe
      obtain ⟨cs, q5, q6⟩ := dSl_at a2 hj
      obtain rfl := dStr_inv q6
      have hch : l[p].groups[j] ∈ childs l nm := by rw [childs_some k2]; exact List.getElem_mem hj
      have hkk : fnd l l[p].groups[j] = none ∨ mz l l[p].groups[j] < k := by
        cases hf : fnd l l[p].groups[j] with
        | none => exact .inl rfl
        | some g' =>
          obtain ⟨r1, r2⟩ := fnd_mem hf
          have := mz_lt hc hch r1 r2
          exact .inr (by omega)
      have hGD : G_dep k [x, .str l[p].groups[j]] = some (.int .i64 (depth l l[p].groups[j])) := by simp only [G_dep, hx]; rw [if_pos ⟨hs, hc, hkk⟩]
      have hsn := maxF_snoc (depth l) l[p].groups j hj
      simp +contextual -implicitDefEqProofs [ej, fe, q3, dSl_len a2, hj, q5, callA_fix hD, dSl_fix hx, hGD, hw]
      refine Ck_mk ?_ ?_ <;> intro hq
      · simp +contextual -implicitDefEqProofs [ej, fe, hw]
        rw [hJ']
        simp at hq
        simp [fe, hsn]; omega
      · simp +contextual -implicitDefEqProofs [ej, fe, hw]
        rw [hJ']
        simp at hq
        simp [fe, hsn]; omega
    · intro env n h ej fe
      rw [hJ'] at fe
      simp only [FE_cons, FE_nil, and_true] at fe
      have := depth_le l nm
      have := hs.1
      rw [List.take_length] at fe
      have hw : IntKind.i64.wrap ((maxF (depth l) l[p].groups : Int) + 1) = (maxF (depth l) l[p].groups : Int) + 1 := wrap_in (by omega) (by omega)
      simp +contextual -implicitDefEqProofs [ej, fe, q3, dSl_len a2, hw]
      rw [← hv, hde]; simp

/-! ### the reference's check of groups -/
def firstNZ (f : Nat → Int) : Nat → Int
  | 0 => 0
  | n + 1 => if firstNZ f n ≠ 0 then firstNZ f n else f n
theorem firstNZ_zero {f : Nat → Int} : ∀ {n : Nat}, firstNZ f n = 0 ↔ ∀ j, j < n → f j = 0 := by
  intro n
  induction n with
  | zero => simp [firstNZ]
  | succ n ih =>
    rw [firstNZ]
    by_cases h : firstNZ f n = 0
    · rw [if_neg (by simpa using h)]
      constructor
      · intro q j hj
        rcases Nat.lt_succ_iff_lt_or_eq.1 hj with r | rfl
        · exact ih.1 h j r
        · exact q
      · intro q; exact q n (by omega)
    · rw [if_pos h]
      constructor
      · intro q; exact absurd q h
      · intro q; exact ih.2 fun j hj => q j (by omega)
theorem firstNZ_at {f : Nat → Int} {i : Nat} (h0 : ∀ j, j < i → f j = 0) (h1 : f i ≠ 0) : ∀ {n : Nat}, i < n → firstNZ f n = f i := by
  intro n
  induction n with
  | zero => intro h; omega
  | succ n ih =>
    intro h
    rw [firstNZ]
    rcases Nat.lt_succ_iff_lt_or_eq.1 h with q | rfl
    · rw [ih q, if_pos h1]
    · have : firstNZ f i = 0 := firstNZ_zero.2 h0
      rw [this]; simp
def oneAt (l : List Group) (i : Nat) : Int := match l[i]? with
  | some g => oneErr l i g
  | none => 0
theorem oneAt_get {l : List Group} {i : Nat} (h : i < l.length) : oneAt l i = oneErr l i l[i] := by simp [oneAt, List.getElem?_eq_getElem h]
def oneAll (l : List Group) : Int := firstNZ (oneAt l) l.length
theorem memErr_small {l : List Group} {g : Group} (h : memErr l g = 0) : g.groups.length ≤ 16 := by
  unfold memErr at h
  split at h
  · cases h
  · omega
theorem small_of {l : List Group} (h1 : ¬ l.length > 16) (h : oneAll l = 0) : Small l := by
  refine ⟨by omega, fun g hg => ?_⟩
  obtain ⟨i, hi, rfl⟩ := List.mem_iff_getElem.1 hg
  have := firstNZ_zero.1 h i hi
  rw [oneAt_get hi, oneErr] at this
  split at this
  · cases this
  · split at this
    · cases this
    · exact memErr_small this
open Classical in
noncomputable def groupsErr (l : List Group) : Int :=
  if l.length > 16 then 4 else if oneAll l ≠ 0 then oneAll l else if ∃ g ∈ l, Reach l g.name g.name then 10 else if (l.any fun g => decide (12 < depth l g.name)) = true then 4 else 0
noncomputable def G_groups : List AV → Option AV
  | [x] => match dGroups x with
    | some l => if l.length ≤ LI then some (.int .i64 (groupsErr l)) else none
    | none => none
  | _ => none
theorem ix_lt {l : List Group} {nm : Nm} {i : Nat} (hi : i ≤ l.length) : ((0 : Int) ≤ ixOf (fun g : Group => g.name == nm) l) → (ixOf (fun g : Group => g.name == nm) l < i ↔ (l.take i).any (fun g => g.name == nm) = true) := by
  intro h0
  rcases ix_cases l nm with ⟨k1, k2⟩ | ⟨p, hp, k1, k2⟩
  · omega
  · rw [k1, List.any_eq_true]
    have hpn : (l[p].name == nm) = true := by have := List.find?_some k2; simpa using this
    constructor
    · intro q
      exact ⟨l[p], List.mem_take_iff_getElem.2 ⟨p, by omega, rfl⟩, hpn⟩
    · rintro ⟨g, hg, hn⟩
      obtain ⟨j, hj, rfl⟩ := List.mem_take_iff_getElem.1 hg
      by_cases q : p ≤ j
      · omega
      · have hix : l.findIdx? (fun g : Group => g.name == nm) = some p := by
          unfold ixOf at k1
          split at k1
          · rename_i h; rw [h]; congr 1; omega
          · omega
        have := (List.findIdx?_eq_some_iff_getElem.1 hix).2.2 j (by omega)
        simp [hn] at this
set_option maxHeartbeats 4000000 in
theorem w_ref43_Right {C : Ctx} (hS : C.TP i_ref02_Simple = some G_simple) (hA : C.TP i_ref43_at = some G_at) (hM : C.TP i_ref43_members = some G_members) (hN : C.TP i_ref43_inside = some G_inside) (hT : C.TP i_ref43_inText = some (inG dStrs aStr)) (hD : C.TP i_ref43_depth = some (G_dep 17))
    {x : AV} {l : List Group} (hx : dGroups x = some l) (hl : l.length ≤ LI) : FnW C c_ref43_Right r_ref43_Right [x] (.int .i64 (groupsErr l)) := by
  unfold FnW c_ref43_Right r_ref43_Right
  generalize hv : AV.int .i64 (groupsErr l) = v
  simp +contextual -implicitDefEqProofs [dSl_len hx]
  refine Ck_mk ?_ ?_ <;> intro hq
  · have : l.length > 16 := by simp at hq; omega
    simp +contextual -implicitDefEqProofs
    rw [← hv, groupsErr, if_pos this]
  · have h16 : ¬ l.length > 16 := by simp at hq; omega
    simp +contextual -implicitDefEqProofs
    obtain ⟨J, hJ⟩ : ∃ J : Nat → Env → Nat → Hp → Prop, J = Scan [(0, x)] [] fun j => oneAt l j = 0 := ⟨_, rfl⟩
    refine Wk_scan l.length 3 0 J hl (Nat.zero_le _) (by simp) (hJ ▸ ⟨by simp, by simp, Upto.zero⟩) ?_ ?_
    · intro i env n h _ hi hw ei hj
      rw [hJ] at hj
      obtain ⟨fe, -, hp⟩ := hj
      simp only [FE_cons, FE_nil, and_true] at fe
      obtain ⟨cg, q3, q4⟩ := dSl_at hx hi
      obtain ⟨u, gs, rfl, a1, a2, a3, a4⟩ := dGroup_inv q4
      have hG : G_at [x, .str l[i].name] = some (.int .i64 (ixOf (fun y => y.name == l[i].name) l)) := by simp only [G_at, hx]; rw [if_pos hl]
      have hM' : G_members [x, .agg [.str l[i].name, u, gs]] = some (.int .i64 (memErr l l[i])) := by simp only [G_members, hx, q4]; rw [if_pos hl]
      have hone : oneAt l i ≠ 0 → groupsErr l = oneAt l i := fun hne => by
        have := firstNZ_at (f := oneAt l) hp hne hi
        rw [groupsErr, if_neg h16, if_pos (by rw [oneAll, this]; exact hne), oneAll, this]
      rw [oneAt_get hi] at hone
      have hix0 : (0 : Int) ≤ ixOf (fun g : Group => g.name == l[i].name) l := by
        have := ixOf_any (p := fun g : Group => g.name == l[i].name) (l := l)
        rw [any_at hi (by simp)] at this
        simpa using this
      have hixl := ix_lt (nm := l[i].name) (Nat.le_of_lt hi) hix0
      generalize hixv : ixOf (fun g : Group => g.name == l[i].name) l = iv at *
      simp +contextual -implicitDefEqProofs [ei, fe, dSl_len hx, hi, q3, callA_fix hS, G_simple]
      refine Ck_mk ?_ ?_ <;> intro hc
      · simp +contextual -implicitDefEqProofs
        rw [← hv, hone (by rw [oneErr, if_pos hc]; decide), oneErr, if_pos hc]
      · have hc' : ¬ (!simpB l[i].name) = true := by rw [hc]; simp
        simp +contextual -implicitDefEqProofs [ei, fe, dSl_len hx, hi, q3, callA_fix hA, dSl_fix hx, hG]
        refine Ck_mk ?_ ?_ <;> intro hc2
        · have hc3 : (l.take i).any (fun g => g.name == l[i].name) = true := hixl.1 (by simpa using hc2)
          simp +contextual -implicitDefEqProofs
          rw [← hv, hone (by rw [oneErr, if_neg hc', if_pos hc3]; decide), oneErr, if_neg hc', if_pos hc3]
        · have hc3 : ¬ (l.take i).any (fun g => g.name == l[i].name) = true := fun q => by have := hixl.2 q; simp at hc2; omega
          rw [oneErr, if_neg hc', if_neg hc3] at hone
          simp +contextual -implicitDefEqProofs [ei, fe, dSl_len hx, hi, q3, callA_fix hM, dSl_fix hx, dSl_fix1 a1, dSl_fix1 a2, hM']
          refine Ck_mk ?_ ?_ <;> intro hc4
          · simp +contextual -implicitDefEqProofs
            rw [← hv, hone (by simpa using hc4)]
          · simp +contextual -implicitDefEqProofs [ei, fe, hw]
            rw [hJ]
            exact ⟨by simp [fe], by simp, hp.succ (by rw [oneAt_get hi, oneErr, if_neg hc', if_neg hc3]; simpa using hc4)⟩
    · intro env n h ei hj
      rw [hJ] at hj
      obtain ⟨fe, -, hp⟩ := hj
      simp only [FE_cons, FE_nil, and_true] at fe
      have hall : oneAll l = 0 := firstNZ_zero.2 hp
      have hs := small_of h16 hall
      simp +contextual -implicitDefEqProofs [ei, fe, dSl_len hx]
      clear hp hJ
      obtain ⟨J, hJ⟩ : ∃ J : Nat → Env → Nat → Hp → Prop, J = Scan [(0, x)] [] fun j => ∀ hj : j < l.length, ¬ Reach l l[j].name l[j].name := ⟨_, rfl⟩
      refine Wk_scan l.length 5 0 J hl (Nat.zero_le _) (by simp) (hJ ▸ ⟨by simp [fe], by simp, Upto.zero⟩) ?_ ?_
      · intro i env n h _ hi hw ei hj
        rw [hJ] at hj
        obtain ⟨fe, -, hp⟩ := hj
        simp only [FE_cons, FE_nil, and_true] at fe
        obtain ⟨cg, q3, q4⟩ := dSl_at hx hi
        obtain ⟨u, gs, rfl, a1, a2, a3, a4⟩ := dGroup_inv q4
        have hGN : G_inside [x, .str l[i].name] = some (bS (insideS l l[i].name) (childs l l[i].name).isEmpty) := by simp only [G_inside, hx]; rw [if_pos hs]
        have hFi : Fine l (insideS l l[i].name) := ((Fine.nil l).putAll (a := l[i].name) fun s hs => hs).itS _
        have hGT : inG dStrs aStr [bS (insideS l l[i].name) (childs l l[i].name).isEmpty, .str l[i].name] = some (.bool ((insideS l l[i].name).contains l[i].name)) := by
          simp only [inG, bS_d, aStr]; rw [if_pos (by have := hFi.len hs; simp only [LI]; omega)]
        have him := inside_mem l l[i].name l[i].name
        generalize hcb : (insideS l l[i].name).contains l[i].name = cb at hGT
        simp +contextual -implicitDefEqProofs [ei, fe, dSl_len hx, hi, q3, callA_fix hN, dSl_fix hx, hGN, callA_fix hT, bS_fix, hGT]
        refine Ck_mk ?_ ?_ <;> intro hc
        · have hr : Reach l l[i].name l[i].name := him.1 (List.contains_iff_mem.1 (by rw [hcb]; exact hc))
          simp +contextual -implicitDefEqProofs
          rw [← hv, groupsErr, if_neg h16, if_neg (by simpa using hall), if_pos ⟨l[i], List.getElem_mem hi, hr⟩]
        · simp +contextual -implicitDefEqProofs [ei, fe, hw]
          rw [hJ]
          exact ⟨by simp [fe], by simp, hp.succ fun _ hr => by have := List.contains_iff_mem.2 (him.2 hr); rw [hcb, hc] at this; cases this⟩
      · intro env n h ei hj
        rw [hJ] at hj
        obtain ⟨fe, -, hp⟩ := hj
        simp only [FE_cons, FE_nil, and_true] at fe
        have hac : Acyc l := fun g hg => by obtain ⟨j, hj, rfl⟩ := List.mem_iff_getElem.1 hg; exact hp j hj hj
        have hnr : ¬ ∃ g ∈ l, Reach l g.name g.name := fun ⟨g, hg, q⟩ => hac g hg q
        simp +contextual -implicitDefEqProofs [ei, fe, dSl_len hx]
        clear hp hJ
        obtain ⟨J, hJ⟩ : ∃ J : Nat → Env → Nat → Hp → Prop, J = Scan [(0, x)] [] fun j => ∀ hj : j < l.length, decide (12 < depth l l[j].name) = false := ⟨_, rfl⟩
        refine Wk_scan l.length 6 0 J hl (Nat.zero_le _) (by simp) (hJ ▸ ⟨by simp [fe], by simp, Upto.zero⟩) ?_ ?_
        · intro i env n h _ hi hw ei hj
          rw [hJ] at hj
          obtain ⟨fe, -, hp⟩ := hj
          simp only [FE_cons, FE_nil, and_true] at fe
          obtain ⟨cg, q3, q4⟩ := dSl_at hx hi
          obtain ⟨u, gs, rfl, a1, a2, a3, a4⟩ := dGroup_inv q4
          have hGD : G_dep 17 [x, .str l[i].name] = some (.int .i64 (depth l l[i].name)) := by
            simp only [G_dep, hx]; rw [if_pos ⟨hs, hac, .inr (by have := mz_le l l[i].name; have := hs.1; omega)⟩]
          simp +contextual -implicitDefEqProofs [ei, fe, dSl_len hx, hi, q3, callA_fix hD, dSl_fix hx, hGD]
          refine Ck_mk ?_ ?_ <;> intro hc
          · simp +contextual -implicitDefEqProofs
            rw [← hv, groupsErr, if_neg h16, if_neg (by simpa using hall), if_neg hnr, if_pos (any_at (p := fun g : Group => decide (12 < depth l g.name)) hi (by simp at hc ⊢; omega))]
          · simp +contextual -implicitDefEqProofs [ei, fe, hw]
            rw [hJ]
            exact ⟨by simp [fe], by simp, hp.succ fun _ => by simp at hc ⊢; omega⟩
        · intro env n h ei hj
          rw [hJ] at hj
          obtain ⟨fe, -, hp⟩ := hj
          simp only [FE_cons, FE_nil, and_true] at fe
          simp +contextual -implicitDefEqProofs [ei, fe, dSl_len hx]
          rw [← hv, groupsErr, if_neg h16, if_neg (by simpa using hall), if_neg hnr, if_neg (by rw [any_none (p := fun g : Group => decide (12 < depth l g.name)) fun j hj => hp j hj hj]; simp)]
end Go.Pv.T
