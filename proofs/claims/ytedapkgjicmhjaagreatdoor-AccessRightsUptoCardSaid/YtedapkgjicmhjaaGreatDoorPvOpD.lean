/- A part of the proof that AccessRights returns true wherever its input is of bulk at most 1048576: what the functions that it reaches answer. No theorem of the claim stands here. -/
import Derived.Test.YtedapkgjicmhjaaGreatDoorPvOpC
set_option linter.unusedSimpArgs false
set_option linter.unusedVariables false
namespace Go.Pv
open Go Go.RowKit

section
variable {P : Program} {im : Nat → Prop} {w : World} {φ : Phi}

theorem VL.setAt {xs ys : List AV} {vx vy : List Value} (h : VL im w φ xs vx) (k : VL im w φ ys vy) (o : Nat) : VL im w φ (setAt xs o ys) (vx.take o ++ vy ++ vx.drop (o + ys.length)) :=
  ((h.take o).append k).append (h.drop _)

theorem foldl_set (off : Nat) : ∀ (vs : List Value) (k : Nat) (cells : Array Value), off + k + vs.length ≤ cells.size →
    ((vs.zipIdx k).foldl (fun cs (x : Value × Nat) => cs.setIfInBounds (off + x.2) x.1) cells).toList = cells.toList.take (off + k) ++ vs ++ cells.toList.drop (off + k + vs.length) := by
  intro vs
  induction vs with
  | nil => intro k cells h; simp
  | cons v r ih =>
    intro k cells h
    simp only [List.zipIdx_cons, List.foldl_cons]
    have hs : off + k < cells.size := by simp at h; omega
    rw [ih (k + 1) _ (by simp at h ⊢; omega)]
    simp only [Array.toList_setIfInBounds, List.length_cons]
    rw [show off + (k + 1) = off + k + 1 by omega, show off + k + 1 + r.length = off + k + (r.length + 1) by omega]
    rw [List.take_succ_eq_append_getElem (by simpa using hs), List.drop_set]
    simp only [List.getElem_set_self]
    rw [List.take_set_of_le (by omega)]
    have : ¬ (off + k + (r.length + 1) ≤ off + k) := by omega
    simp [this]

theorem fill_sim {place : Nat → Option (Nat × Nat)} : ∀ (ps : List (Nat × AV)) (vs : List (Nat × Value)) (xs out : List AV) (vx : Array Value), ps.length = vs.length →
    (∀ (i : Nat) (p : Nat × AV) (v : Nat × Value), ps[i]? = some p → vs[i]? = some v → p.1 = v.1 ∧ V im w φ p.2 v.2) → VL im w φ xs vx.toList → fillA place xs ps = some out →
    ∃ va, Instr.fill place vx vs = some va ∧ VL im w φ out va.toList ∧ out.length = xs.length := by
  intro ps
  induction ps with
  | nil =>
    intro vs xs out vx hl hr hx h
    have : vs = [] := List.eq_nil_of_length_eq_zero (by simpa using hl.symm)
    subst this
    simp [fillA] at h
    subst h
    exact ⟨vx, rfl, hx, rfl⟩
  | cons p r ih =>
    intro vs xs out vx hl hr hx h
    cases vs with
    | nil => simp at hl
    | cons v vr =>
      obtain ⟨i, x⟩ := p
      obtain ⟨i', u⟩ := v
      obtain ⟨rfl, hV⟩ := hr 0 (i, x) (i', u) rfl rfl
      simp only [fillA] at h
      split at h
      · cases h
      · rename_i off size hp
        split at h
        · rename_i hc
          obtain ⟨h1, h2, h3⟩ := hc
          have hcl := hV.cellsL
          have hcs : u.cells.size = size := by have := hcl.1; simp at this; omega
          have hxs : vx.size = xs.length := by have := hx.1; simpa using this
          have hfold := foldl_set off u.cells.toList 0 vx (by simp; omega)
          have hset := hx.setAt hcl off
          have e : (u.cells.zipIdx.foldl (fun cs (x : Value × Nat) => cs.setIfInBounds (off + x.2) x.1) vx).toList = vx.toList.take off ++ u.cells.toList ++ vx.toList.drop (off + x.cells.length) := by
            rw [← Array.foldl_toList]
            simp only [Array.toList_zipIdx]
            rw [hfold]
            simp at h1 ⊢
            omega
          have hset' : VL im w φ (Pv.setAt xs off x.cells) (u.cells.zipIdx.foldl (fun cs (x : Value × Nat) => cs.setIfInBounds (off + x.2) x.1) vx).toList := by rw [e]; exact hset
          obtain ⟨va, k1, k2, k3⟩ := ih vr _ out _ (by simpa using hl) (fun j p v hp hv => hr (j + 1) p v (by simpa using hp) (by simpa using hv)) hset' h
          refine ⟨va, ?_, k2, ?_⟩
          · simp only [Instr.fill, hp]
            rw [if_neg (by simp; omega)]
            exact k1
          · rw [k3]
            simp [Pv.setAt]
            omega
        · cases h

theorem run_mapM {α β : Type} (g : α → Sem β) (r : α → β) : ∀ (l : List α), (∀ x ∈ l, (g x).run P w = .ok (r x) w) → (l.mapM g).run P w = .ok (l.map r) w := by
  intro l
  induction l with
  | nil => intro _; rfl
  | cons x l ih =>
    intro h
    simp only [List.mapM_cons, Sem.run_bind, h x (by simp), Result.andThen_ok, ih (fun y hy => h y (by simp [hy]))]
    rfl
theorem mapM_some {α β : Type} {f : α → Option β} : ∀ {l : List α} {r : List β}, l.mapM f = some r → r.length = l.length ∧ ∀ (i : Nat) (x : α), l[i]? = some x → ∃ y, f x = some y ∧ r[i]? = some y := by
  intro l
  induction l with
  | nil => intro r h; simp at h; subst h; simp
  | cons a l ih =>
    intro r h
    simp only [List.mapM_cons, Option.bind_eq_bind, Option.pure_def, Option.bind_eq_some_iff] at h
    obtain ⟨y, hy, ys, hys, e⟩ := h
    cases e
    obtain ⟨h1, h2⟩ := ih hys
    refine ⟨by simp [h1], fun i x hx => ?_⟩
    cases i with
    | zero => simp at hx; subst hx; exact ⟨y, hy, rfl⟩
    | succ i => simpa using h2 i x (by simpa using hx)

/-- The parts of a literal, operand by operand. -/
theorem parts_rel {ρA : Operand → AV} {ρ : Operand → Value} (hρ : ∀ x, V im w φ (ρA x) (ρ x)) (ps : Array (Nat × Operand)) :
    (ps.toList.map fun (p : Nat × Operand) => (p.1, ρA p.2)).length = (ps.map fun (p : Nat × Operand) => (p.1, ρ p.2)).toList.length ∧
    ∀ (i : Nat) (p : Nat × AV) (v : Nat × Value), (ps.toList.map fun (p : Nat × Operand) => (p.1, ρA p.2))[i]? = some p → (ps.map fun (p : Nat × Operand) => (p.1, ρ p.2)).toList[i]? = some v → p.1 = v.1 ∧ V im w φ p.2 v.2 := by
  refine ⟨by simp, fun i p v hp hv => ?_⟩
  simp only [List.getElem?_map, Array.toList_map] at hp hv
  cases e : ps.toList[i]? with
  | none => simp [e] at hp
  | some q =>
    simp [e] at hp hv
    subst hp hv
    exact ⟨rfl, hρ _⟩

theorem build_sim {t : TypeId} {z : AV} {ρA : Operand → AV} {ρ : Operand → Value} (hρ : ∀ x, V im w φ (ρA x) (ρ x)) (ps : Array (Nat × Operand)) (h : buildA P t (ps.toList.map fun (p : Nat × Operand) => (p.1, ρA p.2)) = some z) :
    ∃ u, (Instr.build t (ps.map fun (p : Nat × Operand) => (p.1, ρ p.2))).run P w = .ok u w ∧ V im w φ z u := by
  unfold buildA at h
  split at h
  · rename_i zz pl hz hpl
    cases e : fillA (fun i => pl[i]?) zz.cells (ps.toList.map fun (p : Nat × Operand) => (p.1, ρA p.2)) with
    | none => simp [e] at h
    | some out =>
      simp [e] at h
      subst h
      obtain ⟨zv, hzr, hzz⟩ := run_zero (w := w) hz
      have hzV : V im w φ zz zv := zav_V hzz
      obtain ⟨r1, r2⟩ := parts_rel hρ ps
      unfold tPlaces at hpl
      split at hpl
      · rename_i fs u
        obtain ⟨l1, l2⟩ := mapM_some hpl
        obtain ⟨va, k1, k2, _⟩ := fill_sim (place := fun i => pl[i]?) _ _ _ _ zv.cells r1 r2 hzV.cellsL e
        have hm : (fs.mapM fun f => (do pure (f.offset, ← sizeOf f.type) : Sem (Nat × Nat))).run P w = .ok pl.toArray w := by
          rw [Array.mapM_eq_mapM_toList]
          have hrun := run_mapM (P := P) (w := w) (fun f : Field => (do pure (f.offset, ← sizeOf f.type) : Sem (Nat × Nat))) (fun f => (f.offset, (tSize P f.type).getD 0)) fs.toList (fun f hf => by
            obtain ⟨i, hi, rfl⟩ := List.getElem_of_mem hf
            obtain ⟨y, hy, _⟩ := l2 i _ (List.getElem?_eq_getElem hi)
            cases es : tSize P fs.toList[i].type with
            | none => rw [es] at hy; cases hy
            | some n => simp only [Sem.run_bind, run_size es, Result.andThen_ok, Sem.run_pure, Option.getD_some])
          simp only [Sem.run_map, hrun, Result.andThen_ok]
          congr 1
          congr 1
          apply List.ext_getElem?
          intro i
          cases ei : fs.toList[i]? with
          | none =>
            have : fs.toList.length ≤ i := by simpa using ei
            rw [List.getElem?_eq_none (by simpa using this), List.getElem?_eq_none (by omega)]
          | some f =>
            obtain ⟨y, hy, hy2⟩ := l2 i f ei
            simp only [List.getElem?_map, ei, Option.map_some, hy2]
            cases es : tSize P f.type with
            | none => simp [es] at hy
            | some n => simp [es] at hy; simp [hy]
        refine ⟨.agg va, ?_, ?_⟩
        · have hk : Instr.fill (fun i => pl.toArray[i]?) zv.cells (ps.map fun (p : Nat × Operand) => (p.1, ρ p.2)).toList = some va := by simpa using k1
          unfold Instr.build
          simp only [Sem.run_bind, hzr, Result.andThen_ok, run_under u, hm]
          rw [hk]
          rfl
        · simpa using k2.mk_agg
      · rename_i n et u
        cases es : tSize P et with
        | none => simp [es] at hpl
        | some s =>
          simp [es] at hpl
          -- a place inside the array is the model's
          have hmono : ∀ (l : List (Nat × Value)) (c : Array Value) (va : Array Value), Instr.fill (fun i => pl[i]?) c l = some va → Instr.fill (fun i => some (i * s, s)) c l = some va := by
            intro l
            induction l with
            | nil => intro c va h; exact h
            | cons p r ih =>
              intro c va h
              obtain ⟨i, v⟩ := p
              simp only [Instr.fill] at h ⊢
              split at h
              · cases h
              · rename_i off size hp
                have : off = i * s ∧ size = s := by
                  rw [← hpl] at hp
                  simp only [List.getElem?_map] at hp
                  cases ei : (List.range n)[i]? with
                  | none => simp [ei] at hp
                  | some j =>
                    have h2 := (List.getElem?_eq_some_iff.1 ei).2
                    simp at h2
                    simp [ei] at hp
                    subst h2
                    exact ⟨hp.1.symm, hp.2.symm⟩
                obtain ⟨rfl, rfl⟩ := this
                split at h
                · cases h
                · rename_i hc
                  rw [if_neg hc]
                  exact ih _ _ h
          obtain ⟨va, k1, k2, _⟩ := fill_sim (place := fun i => pl[i]?) _ _ _ _ zv.cells r1 r2 hzV.cellsL e
          refine ⟨.agg va, ?_, by simpa using k2.mk_agg⟩
          unfold Instr.build
          simp only [Sem.run_bind, hzr, Result.andThen_ok, run_under u, run_size es]
          rw [hmono _ _ _ k1]
          rfl
      · cases hpl
  · cases h

end
end Go.Pv
