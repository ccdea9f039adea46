/- A part of the proof that AccessRights returns true wherever its input is of bulk at most 1048576: what the functions that it reaches answer. No theorem of the claim stands here. -/
import Derived.Test.YtedapkgjicmhjaaGreatDoorPvCC
import Derived.Test.YtedapkgjicmhjaaGreatDoorPvCode
namespace Go.Pv
open Go
set_option linter.unusedSimpArgs false
set_option linter.unusedVariables false

theorem compX_ev {o : Operand} {x : X} (h : compX o = some x) (gl : Nat → List AV) (env : Nat → AV) : evA gl env o = x.ev gl env := by
  cases o with
  | tmp t => simp only [compX] at h; cases h; rfl
  | const v =>
    simp only [compX, Option.map_eq_some_iff] at h
    obtain ⟨a, h1, h2⟩ := h
    subst h2
    simp [evA, X.ev, h1]
  | global g => simp only [compX] at h; cases h; rfl
  | func f => simp only [compX] at h; cases h; rfl
theorem compRD_ok {P : Program} {t : TypeId} {r : RD} (h : compRD P t = some r) (cells : List AV) : readAt P t cells = rd r cells := by
  unfold compRD at h
  unfold readAt
  split at h
  · rename_i ha
    simp only [Option.map_eq_some_iff] at h
    obtain ⟨n, h1, h2⟩ := h
    subst h2
    simp [ha, h1, rd]
  · rename_i ha
    cases h
    simp [ha, rd]
  · cases h
theorem compXs_ev : ∀ {l : List Operand} {xs : List X}, compXs l = some xs → ∀ (gl : Nat → List AV) (env : Nat → AV), l.map (evA gl env) = mapX gl env xs := by
  intro l
  induction l with
  | nil => intro xs h gl env; simp only [compXs] at h; cases h; rfl
  | cons o r ih =>
    intro xs h gl env
    simp only [compXs] at h
    split at h
    · rename_i x l h1 h2
      cases h
      simp [mapX, compX_ev h1, ih h2]
    · cases h
theorem compPs_ev : ∀ {l : List (Nat × Operand)} {xs : List (Nat × X)}, compPs l = some xs → ∀ (gl : Nat → List AV) (env : Nat → AV), (l.map fun (i, x) => (i, evA gl env x)) = mapP gl env xs := by
  intro l
  induction l with
  | nil => intro xs h gl env; simp only [compPs] at h; cases h; rfl
  | cons o r ih =>
    intro xs h gl env
    obtain ⟨i, o⟩ := o
    simp only [compPs] at h
    split at h
    · rename_i x l h1 h2
      cases h
      simp [mapP, compX_ev h1, ih h2]
    · cases h
theorem compO1_ev {o : Option Operand} {x : Option X} (h : compO1 o = some x) (gl : Nat → List AV) (env : Nat → AV) : o.map (evA gl env) = x.map (·.ev gl env) := by
  cases o with
  | none => simp only [compO1] at h; cases h; rfl
  | some o =>
    simp only [compO1, Option.map_eq_some_iff] at h
    obtain ⟨y, h1, h2⟩ := h
    subst h2
    simp [compX_ev h1]

theorem eqC_ok {P : Program} {t : TypeId} {x y : AV} {r : Bool} (h : eqC (compEQ P t) x y = some r) : eqA P t x y = some r := by
  unfold compEQ at h
  split at h
  · rename_i hu; cases x <;> cases y <;> simp_all [eqC, eqA]
  · rename_i hu; cases x <;> cases y <;> simp_all [eqC, eqA, nilP, eqN]
  · rename_i hu; cases x <;> cases y <;> simp_all [eqC, eqA, nilS, eqN]
  · rename_i hu; cases x <;> cases y <;> simp_all [eqC, eqA, nilM, eqN]
  · rename_i hu; cases x <;> cases y <;> simp_all [eqC, eqA, nilF, eqN]
  · split at h
    · rename_i hk; cases x <;> cases y <;> simp_all [eqC, eqA]
    · simp [eqC] at h
theorem binG_mono {op : BinOp} {x y r : AV} {e e' : Option Bool} (he : ∀ b, e = some b → e' = some b) (h : binG op x y e = some r) : binG op x y e' = some r := by
  unfold binG at h ⊢
  split at h
  · exact h
  · exact h
  · simp_all
  · simp_all
  · simp only [Option.map_eq_some_iff] at h
    obtain ⟨b, h1, h2⟩ := h
    simp_all
  · simp only [Option.map_eq_some_iff] at h
    obtain ⟨b, h1, h2⟩ := h
    simp_all
  · cases h
theorem binC_ok {P : Program} {op : BinOp} {t : TypeId} {x y r : AV} (h : binC op (compEQ P t) x y = some r) : binA P op t x y = some r := by
  unfold binA
  exact binG_mono (fun b hb => eqC_ok hb) h
end Go.Pv
