/- A part of the proof that AccessRights returns true wherever its input is of bulk at most 1048576: what the functions that it reaches answer. No theorem of the claim stands here. -/
import Derived.Test.YtedapkgjicmhjaaGreatDoorPvDat
namespace Go.Pv
open Go
set_option linter.unusedSimpArgs false
set_option linter.unusedVariables false

/-- Slots that stay as they are. -/
def FE (env : Env) : List (Nat × AV) → Prop
  | [] => True
  | (t, v) :: r => env t = v ∧ FE env r
/-- Objects that stay as they are. -/
def FH (h : Hp) (n : Nat) : List (Nat × AO) → Prop
  | [] => True
  | (id, o) :: r => (h id = o ∧ id < n) ∧ FH h n r
@[simp] theorem FE_nil {env} : FE env [] = True := rfl
@[simp] theorem FE_cons {env t v r} : FE env ((t, v) :: r) = (env t = v ∧ FE env r) := rfl
@[simp] theorem FH_nil {h n} : FH h n [] = True := rfl
@[simp] theorem FH_cons {h n id o r} : FH h n ((id, o) :: r) = ((h id = o ∧ id < n) ∧ FH h n r) := rfl
section
variable {C : Ctx} {Q : Ex → Env → Nat → Hp → Prop} {K : List Fr} {env : Env} {n : Nat} {h : Hp}
/-- A loop whose index goes from i0 to N. -/
theorem Wk_scan {c : CC} (N ix i0 : Nat) (J : Nat → Env → Nat → Hp → Prop) (hN : N ≤ 2305843009213693951) (hi0 : i0 ≤ N) (hi : env ix = .int .i64 i0) (hJ : J i0 env n h)
    (step : ∀ i env n h, i0 ≤ i → i < N → IntKind.i64.wrap ((i : Int) + 1) = (i : Int) + 1 → env ix = .int .i64 i → J i env n h → Wk C Q c (.st (fun env n h => env ix = .int .i64 ((i : Int) + 1) ∧ J (i + 1) env n h) :: K) env n h)
    (last : ∀ env n h, env ix = .int .i64 N → J N env n h → Wk C Q c (.st (fun _ _ _ => False) :: K) env n h) : Wk C Q (.loop c) K env n h := by
  refine Wk_loop (fun m env n h => ∃ i, m = N - i ∧ i0 ≤ i ∧ i ≤ N ∧ env ix = .int .i64 i ∧ J i env n h) (N - i0) ⟨i0, rfl, Nat.le_refl _, hi0, hi, hJ⟩ ?_
  rintro m env n h ⟨i, rfl, h1, h2, h3, h4⟩
  rcases Nat.lt_or_ge i N with hlt | hge
  · refine Wk_st ?_ (step i env n h h1 hlt (wrap_in (by omega) (by omega)) h3 h4)
    rintro env n h ⟨q1, q2⟩
    exact ⟨N - (i + 1), by omega, i + 1, rfl, by omega, by omega, by simpa using q1, q2⟩
  · obtain rfl : i = N := by omega
    exact Wk_st (fun _ _ _ q => q.elim) (last env n h h3 h4)
end

/-- What holds of all places before i. -/
def Upto (i : Nat) (P : Nat → Prop) : Prop := ∀ j, j < i → P j
theorem Upto.zero {P : Nat → Prop} : Upto 0 P := fun j hj => absurd hj (Nat.not_lt_zero j)
theorem Upto.succ {P : Nat → Prop} {i : Nat} (h : Upto i P) (hi : P i) : Upto (i + 1) P := by
  intro j hj
  rcases Nat.lt_succ_iff_lt_or_eq.1 hj with q | rfl
  · exact h j q
  · exact hi
/-- What a scan keeps: slots, objects, what was seen. -/
def Scan (fe : List (Nat × AV)) (fh : List (Nat × AO)) (P : Nat → Prop) (i : Nat) (env : Env) (n : Nat) (h : Hp) : Prop := FE env fe ∧ FH h n fh ∧ Upto i P

/-! ### what is found -/
def ixOf {α : Type} (p : α → Bool) (l : List α) : Int := match l.findIdx? p with
  | some i => i
  | none => -1
theorem ixOf_at {α : Type} {p : α → Bool} {l : List α} {i : Nat} (hi : i < l.length) (h1 : ∀ j (hj : j < i), p (l[j]'(by omega)) = false) (h2 : p l[i] = true) : ixOf p l = i := by
  have : l.findIdx? p = some i := by
    rw [List.findIdx?_eq_some_iff_getElem]
    exact ⟨hi, h2, fun j hj => by simp [h1 j hj]⟩
  simp [ixOf, this]
theorem ixOf_none {α : Type} {p : α → Bool} {l : List α} (h1 : ∀ j (hj : j < l.length), p l[j] = false) : ixOf p l = -1 := by
  have : l.findIdx? p = none := by
    rw [List.findIdx?_eq_none_iff]
    intro x hx
    obtain ⟨j, hj, rfl⟩ := List.mem_iff_getElem.1 hx
    exact h1 j hj
  simp [ixOf, this]
theorem ixOf_any {α : Type} {p : α → Bool} {l : List α} : decide (0 ≤ ixOf p l) = l.any p := by
  unfold ixOf
  split
  · rename_i i h
    rw [List.findIdx?_eq_some_iff_getElem] at h
    obtain ⟨h1, h2, _⟩ := h
    have : l.any p = true := List.any_eq_true.2 ⟨l[i], List.getElem_mem h1, h2⟩
    rw [this]; simp
  · rename_i h
    rw [List.findIdx?_eq_none_iff] at h
    have : l.any p = false := by rw [List.any_eq_false]; intro x hx; simp [h x hx]
    rw [this]; simp
theorem any_at {α : Type} {p : α → Bool} {l : List α} {i : Nat} (hi : i < l.length) (h2 : p l[i] = true) : l.any p = true := List.any_eq_true.2 ⟨l[i], List.getElem_mem hi, h2⟩
theorem any_none {α : Type} {p : α → Bool} {l : List α} (h1 : ∀ j (hj : j < l.length), p l[j] = false) : l.any p = false := by
  rw [List.any_eq_false]
  intro x hx
  obtain ⟨j, hj, rfl⟩ := List.mem_iff_getElem.1 hx
  simp [h1 j hj]
theorem all_at {α : Type} {p : α → Bool} {l : List α} {i : Nat} (hi : i < l.length) (h2 : p l[i] = false) : l.all p = false := by
  rw [List.all_eq_false]; exact ⟨l[i], List.getElem_mem hi, by simp [h2]⟩
theorem all_none {α : Type} {p : α → Bool} {l : List α} (h1 : ∀ j (hj : j < l.length), p l[j] = true) : l.all p = true := by
  rw [List.all_eq_true]
  intro x hx
  obtain ⟨j, hj, rfl⟩ := List.mem_iff_getElem.1 hx
  exact h1 j hj
theorem beq_at {α : Type} [BEq α] [LawfulBEq α] {a b : List α} {i : Nat} (ha : i < a.length) (hb : i < b.length) (h : a[i] ≠ b[i]) : (a == b) = false := by
  rw [beq_eq_false_iff_ne]
  rintro rfl
  exact h rfl
theorem beq_len {α : Type} [BEq α] [LawfulBEq α] {a b : List α} (h : a.length ≠ b.length) : (a == b) = false := by
  rw [beq_eq_false_iff_ne]
  rintro rfl
  exact h rfl
theorem beq_all {α : Type} [BEq α] [LawfulBEq α] {a b : List α} (hl : a.length = b.length) (h : ∀ j (hj : j < a.length), a[j] = b[j]'(by omega)) : (a == b) = true := by
  rw [beq_iff_eq]
  exact List.ext_getElem hl fun i h1 h2 => h i h1
theorem lt_succ_cases {P : Nat → Prop} {i : Nat} (h : ∀ j, j < i → P j) (hi : P i) : ∀ j, j < i + 1 → P j := by
  intro j hj
  rcases Nat.lt_succ_iff_lt_or_eq.1 hj with q | rfl
  · exact h j q
  · exact hi
end Go.Pv
