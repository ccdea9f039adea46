/- A part of the proof that AccessRights returns true wherever its input is of bulk at most 1048576: what the functions that it reaches answer. No theorem of the claim stands here. -/
import Derived.Test.YtedapkgjicmhjaaGreatDoorPvRel
import Derived.WideLaws
import Derived.Laws.Strings
set_option linter.unusedSimpArgs false
set_option linter.unusedVariables false
namespace Go.Pv
open Go Go.RowKit

section
variable {P : Program} {im : Nat → Prop} {w : World} {φ : Phi}

theorem run_size {t n} (h : tSize P t = some n) : (sizeOf t).run P w = .ok n w := by
  unfold tSize at h
  cases e : P.info? t with
  | none => simp [e] at h
  | some i => simp [e] at h; simp [sizeOf, typeInfo, e, h]
theorem run_info {t : TypeId} {i : TypeInfo} (h : P.info? t = some i) : (typeInfo t).run P w = .ok i w := by simp [typeInfo, h]
theorem run_under {t : TypeId} {d : TypeDesc} (h : P.underlying t = some d) : (underlying t).run P w = .ok d w := by simp [underlying, h]
theorem run_agg {t b} (h : tIsAgg P t = some b) : (isAgg t).run P w = .ok b w := by
  unfold tIsAgg at h
  cases e : P.underlying t with
  | none => simp [e] at h
  | some d =>
    rw [e] at h
    simp only [isAgg, Sem.run_bind, run_under e, Result.andThen_ok]
    cases d <;> simp_all
theorem zavC_V {v : Value} {x : AV} (h : zavC v = some x) : V im w φ x v := by
  unfold zavC at h
  split at h <;> cases h
  · exact .bool _
  · exact .int _ _
  · exact .str _
  · exact .nilp
  · exact .nils
  · exact .nilm
  · exact .nilf
  · exact .nili
theorem mapM_zavC {l : List Value} : ∀ {xs : List AV}, l.mapM zavC = some xs → l.length = xs.length ∧ ∀ i, i < xs.length → V im w φ (xs.getD i .no) (l.getD i undef) := by
  induction l with
  | nil => intro xs h; simp at h; subst h; exact ⟨rfl, fun i hi => by simp at hi⟩
  | cons v r ih =>
    intro xs h
    simp only [List.mapM_cons, Option.bind_eq_bind, Option.pure_def, Option.bind_eq_some_iff] at h
    obtain ⟨x, hx, ys, hy, e⟩ := h
    cases e
    obtain ⟨h1, h2⟩ := ih hy
    refine ⟨by simp [h1], fun i hi => ?_⟩
    cases i with
    | zero => simpa using zavC_V hx
    | succ i => simpa using h2 i (by simpa using hi)
theorem getD_toList (a : Array Value) (i : Nat) (d : Value) : a.toList.getD i d = a.getD i d := by
  simp [List.getD_eq_getElem?_getD, Array.getD_eq_getD_getElem?]
theorem zav_V {v : Value} {x : AV} (h : zav v = some x) : V im w φ x v := by
  unfold zav at h
  split at h
  · rename_i cs
    cases e : cs.toList.mapM zavC with
    | none => simp [e] at h
    | some xs =>
      simp [e] at h
      subst h
      obtain ⟨h1, h2⟩ := mapM_zavC (im := im) (w := w) (φ := φ) e
      exact .agg xs cs (by simpa using h1) (fun i hi => by rw [← getD_toList]; exact h2 i hi)
  · exact zavC_V h
theorem run_zero {t z} (h : tZero P t = some z) : ∃ zv, (zeroValue t).run P w = .ok zv w ∧ zav zv = some z := by
  unfold tZero at h
  cases e : P.info? t with
  | none => simp [e] at h
  | some i =>
    simp only [e, Option.bind_some] at h
    cases e2 : i.zero with
    | none => simp [e2] at h
    | some zv =>
      simp only [e2, Option.bind_some] at h
      exact ⟨zv, by simp [zeroValue, run_info e, e2], h⟩

/-- The cells of a value. -/
theorem V.cellsL {x : AV} {v : Value} (h : V im w φ x v) : VL im w φ x.cells v.cells.toList := by
  cases h with
  | agg cs vals hs hv =>
    refine ⟨by simpa [AV.cells, Value.cells] using hs, fun i hi => ?_⟩
    simp only [Value.cells, getD_toList]
    exact hv i hi
  | _ => exact VL.cons (by constructor <;> assumption) VL.nil
theorem V.one {x : AV} {v : Value} (h : V im w φ x v) (ho : x.one = true) : v.oneCell' = true := by
  cases h <;> first | rfl | simp [AV.one] at ho
theorem VL.ones {xs : List AV} {vs : List Value} (h : VL im w φ xs vs) (ho : xs.all AV.one = true) : ∀ v ∈ vs, v.oneCell' = true := by
  intro v hv
  obtain ⟨i, hi, rfl⟩ := List.getElem_of_mem hv
  have hx : i < xs.length := by rw [← h.1]; exact hi
  have := h.2 i hx
  rw [List.getD_eq_getElem?_getD, List.getD_eq_getElem?_getD, List.getElem?_eq_getElem hx, List.getElem?_eq_getElem hi] at this
  exact this.one (List.all_eq_true.1 ho _ (List.getElem_mem hx))
theorem VL.getElem? {xs : List AV} {vs : List Value} (h : VL im w φ xs vs) {i : Nat} {x : AV} (hx : xs[i]? = some x) : ∃ v, vs[i]? = some v ∧ V im w φ x v := by
  have hi := (List.getElem?_eq_some_iff.1 hx).1
  have hv : i < vs.length := by rw [h.1]; exact hi
  refine ⟨vs[i], List.getElem?_eq_getElem hv, ?_⟩
  have := h.2 i hi
  rwa [List.getD_eq_getElem?_getD, List.getD_eq_getElem?_getD, hx, List.getElem?_eq_getElem hv] at this
theorem VL.drop {xs : List AV} {vs : List Value} (h : VL im w φ xs vs) (k : Nat) : VL im w φ (xs.drop k) (vs.drop k) := by
  refine ⟨by simp [h.1], fun i hi => ?_⟩
  have := h.2 (k + i) (by simp at hi; omega)
  simpa [List.getD_eq_getElem?_getD, List.getElem?_drop] using this
theorem VL.take {xs : List AV} {vs : List Value} (h : VL im w φ xs vs) (k : Nat) : VL im w φ (xs.take k) (vs.take k) := by
  refine ⟨by simp [h.1], fun i hi => ?_⟩
  have hk : i < k := by simp at hi; omega
  have := h.2 i (by simp at hi; omega)
  simpa [List.getD_eq_getElem?_getD, List.getElem?_take, hk] using this
theorem VL.mk_agg {xs : List AV} {vs : List Value} (h : VL im w φ xs vs) : V im w φ (.agg xs) (.agg vs.toArray) :=
  .agg xs _ (by simpa using h.1) (fun i hi => by have := h.2 i hi; rw [← getD_toList]; exact this)
theorem VL.mk_tup {xs : List AV} {vs : List Value} (h : VL im w φ xs vs) : V im w φ (.tup xs) (.tuple vs.toArray) :=
  .tup xs _ (by simpa using h.1) (fun i hi => by have := h.2 i hi; rw [← getD_toList]; exact this)
theorem VL.of_agg {xs : List AV} {v : Value} (h : V im w φ (.agg xs) v) : ∃ vs : Array Value, v = .agg vs ∧ VL im w φ xs vs.toList := by
  cases h with
  | agg _ vals hs hv => exact ⟨vals, rfl, by simpa using hs, fun i hi => by rw [getD_toList]; exact hv i hi⟩
theorem VL.of_tup {xs : List AV} {v : Value} (h : V im w φ (.tup xs) v) : ∃ vs : Array Value, v = .tuple vs ∧ VL im w φ xs vs.toList := by
  cases h with
  | tup _ vals hs hv => exact ⟨vals, rfl, by simpa using hs, fun i hi => by rw [getD_toList]; exact hv i hi⟩
theorem VL.map {α : Type} (l : List α) (f : α → AV) (g : α → Value) (h : ∀ x ∈ l, V im w φ (f x) (g x)) : VL im w φ (l.map f) (l.map g) := by
  induction l with
  | nil => exact VL.nil
  | cons x r ih => exact VL.cons (h x (by simp)) (ih fun y hy => h y (by simp [hy]))

/-- A part of a struct or an array. -/
theorem part_sim {t : TypeId} {xs : List AV} {vs : Array Value} (h : VL im w φ xs vs.toList) {off : Nat} {x : AV} (hr : readAt P t (xs.drop off) = some x) :
    ∃ v, (part t vs off).run P w = .ok v w ∧ V im w φ x v := by
  unfold readAt at hr
  split at hr
  · rename_i ha
    split at hr
    · rename_i n hn
      split at hr
      · rename_i hle
        cases hr
        refine ⟨.agg (vs.extract off (off + n)), by simp [part, run_agg ha, run_size hn], ?_⟩
        have := ((h.drop off).take n).mk_agg
        have e : ((vs.toList.drop off).take n).toArray = vs.extract off (off + n) := by
          apply Array.ext'
          simp [List.take_drop, Nat.add_comm]
        rwa [e] at this
      · cases hr
    · cases hr
  · rename_i ha
    obtain ⟨v, hv, hV⟩ := (h.drop off).getElem? (i := 0) (by rw [← hr, List.head?_eq_getElem?])
    refine ⟨v, ?_, hV⟩
    rw [List.getElem?_drop] at hv
    simp only [Nat.add_zero, Array.getElem?_toList] at hv
    simp [part, run_agg ha, hv]
  · cases hr

theorem run_loadCells (a : Addr) : ∀ (n i : Nat) (acc : Array Value) (vs : Nat → Value), (∀ o, o < n → w.cell? (a.add (i + o)) = some (vs (i + o))) →
    (loadCellsFrom a i n acc).run P w = .ok (acc ++ ((List.range n).map fun o => vs (i + o)).toArray) w := by
  intro n
  induction n with
  | zero => intro i acc vs h; simp [loadCellsFrom]
  | succ n ih =>
    intro i acc vs h
    have h0 := h 0 (by omega)
    simp only [Nat.add_zero] at h0
    simp only [loadCellsFrom, Sem.run_bind, run_load, h0, Result.andThen_ok]
    rw [ih (i + 1) _ vs (fun o ho => by have := h (o + 1) (by omega); rwa [show i + (o + 1) = i + 1 + o by omega] at this)]
    congr 1
    apply Array.ext'
    simp [List.range_succ_eq_map, Function.comp_def, Nat.add_assoc, Nat.add_comm 1]

/-- What is read from memory whose cells stand for xs. -/
theorem load_sim {t : TypeId} {a : Addr} {xs : List AV} (vs : Nat → Value) (hc : ∀ o, o < xs.length → w.cell? (a.add o) = some (vs o)) (hv : ∀ o, o < xs.length → V im w φ (xs.getD o .no) (vs o))
    {x : AV} (hr : readAt P t xs = some x) : ∃ v, (loadVar t a).run P w = .ok v w ∧ V im w φ x v := by
  unfold readAt at hr
  split at hr
  · rename_i ha
    split at hr
    · rename_i n hn
      split at hr
      · rename_i hle
        cases hr
        have hl := run_loadCells (P := P) a n 0 #[] vs (fun o ho => by simpa using hc o (by omega))
        refine ⟨_, by simp [loadVar, run_agg ha, run_size hn, loadCells, hl]; rfl, ?_⟩
        refine VL.mk_agg ⟨by simp; omega, fun i hi => ?_⟩
        have hi1 : i < n := by simp at hi; omega
        have := hv i (by omega)
        simp only [List.getD_eq_getElem?_getD, List.getElem?_take, hi1, if_true, List.getElem?_map, List.getElem?_range hi1, Option.map_some, Option.getD_some, Nat.zero_add] at this ⊢
        exact this
      · cases hr
    · cases hr
  · rename_i ha
    have hne : 0 < xs.length := by cases xs with | nil => simp at hr | cons => simp
    refine ⟨vs 0, ?_, ?_⟩
    · have := hc 0 hne
      have e : a.add 0 = a := rfl
      rw [e] at this
      simp [loadVar, run_agg ha, this]
    · have := hv 0 hne
      cases xs with
      | nil => simp at hne
      | cons y r => simp at hr; subst hr; simpa using this
  · cases hr
end
end Go.Pv
