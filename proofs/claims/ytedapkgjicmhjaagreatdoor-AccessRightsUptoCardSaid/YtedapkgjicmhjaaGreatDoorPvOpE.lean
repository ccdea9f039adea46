/- A part of the proof that AccessRights returns true wherever its input is of bulk at most 1048576: what the functions that it reaches answer. No theorem of the claim stands here. -/
import Derived.Test.YtedapkgjicmhjaaGreatDoorPvOpD
set_option linter.unusedSimpArgs false
set_option linter.unusedVariables false
namespace Go.Pv
open Go Go.RowKit

section
variable {P : Program} {im : Nat → Prop} {w : World} {φ : Phi}

theorem min_sim (xs : List AV) (vs : List Value) (h : VL im w φ xs vs) {z : AV} (hz : minA xs = some z) (t : TypeId) (ats : Array TypeId) : ∃ u, (Builtin.min_ ats t vs.toArray).run P w = .ok u w ∧ V im w φ z u := by
  cases xs with
  | nil => simp [minA] at hz
  | cons x r =>
    cases vs with
    | nil => have := h.1; simp at this
    | cons v vr =>
      simp only [minA] at hz
      simp only [Builtin.min_]
      have hx := h.head
      have hr := h.tail
      clear h
      induction r generalizing x v vr with
      | nil =>
        have : vr = [] := List.eq_nil_of_length_eq_zero (by simpa using hr.1)
        subst this
        simp at hz; subst hz
        exact ⟨v, by simp, hx⟩
      | cons y r ih =>
        cases vr with
        | nil => have := hr.1; simp at this
        | cons u vr =>
          simp only [List.foldlM_cons, Option.bind_eq_bind, Option.bind_eq_some_iff] at hz
          obtain ⟨q, hq, hz⟩ := hz
          split at hq
          · cases hq
            rename_i k m k' n
            have hy := hr.head
            rw [hx.int_inv, hy.int_inv]
            have := ih (.int k (if n < m then n else m)) hz (.int k (if n < m then n else m)) vr (.int _ _) hr.tail
            simpa [Builtin.min2] using this
          · cases hq
theorem max_sim (xs : List AV) (vs : List Value) (h : VL im w φ xs vs) {z : AV} (hz : maxA xs = some z) (t : TypeId) (ats : Array TypeId) : ∃ u, (Builtin.max_ ats t vs.toArray).run P w = .ok u w ∧ V im w φ z u := by
  cases xs with
  | nil => simp [maxA] at hz
  | cons x r =>
    cases vs with
    | nil => have := h.1; simp at this
    | cons v vr =>
      simp only [maxA] at hz
      simp only [Builtin.max_]
      have hx := h.head
      have hr := h.tail
      clear h
      induction r generalizing x v vr with
      | nil =>
        have : vr = [] := List.eq_nil_of_length_eq_zero (by simpa using hr.1)
        subst this
        simp at hz; subst hz
        exact ⟨v, by simp, hx⟩
      | cons y r ih =>
        cases vr with
        | nil => have := hr.1; simp at this
        | cons u vr =>
          simp only [List.foldlM_cons, Option.bind_eq_bind, Option.bind_eq_some_iff] at hz
          obtain ⟨q, hq, hz⟩ := hz
          split at hq
          · cases hq
            rename_i k m k' n
            have hy := hr.head
            rw [hx.int_inv, hy.int_inv]
            have := ih (.int k (if n > m then n else m)) hz (.int k (if n > m then n else m)) vr (.int _ _) hr.tail
            simpa [Builtin.max2] using this
          · cases hq

theorem VL.operands {ρA : Operand → AV} {ρ : Operand → Value} (hρ : ∀ x, V im w φ (ρA x) (ρ x)) (l : List Operand) : VL im w φ (l.map ρA) (l.map ρ) := VL.map l ρA ρ fun x _ => hρ x

theorem opP_sim {ρA : Operand → AV} {ρ : Operand → Value} (hρ : ∀ x, V im w φ (ρA x) (ρ x)) (o : Oper) {v : AV} (h : opP P ρA o.op = some v) :
    ∃ u, (execOp ρ o).run P w = .ok (.value u) w ∧ V im w φ v u := by
  obtain ⟨dst, op, ty, pos, after, guard⟩ := o
  simp only at h
  cases op with
  | move x => simp only [opP] at h; cases h; exact ⟨_, rfl, hρ x⟩
  | assign x => simp only [opP] at h; cases h; exact ⟨_, rfl, hρ x⟩
  | pick c a b =>
    simp only [opP] at h
    have hc := hρ c
    split at h
    · rename_i e; cases h; rw [e] at hc; exact ⟨_, by simp [execOp, hc.bool_inv, asBool], hρ a⟩
    · rename_i e; cases h; rw [e] at hc; exact ⟨_, by simp [execOp, hc.bool_inv, asBool], hρ b⟩
    · cases h
  | build t ps =>
    simp only [opP] at h
    obtain ⟨u, h1, h2⟩ := build_sim hρ ps h
    exact ⟨u, by simp [execOp, h1], h2⟩
  | nilCheck x =>
    simp only [opP] at h
    have hx := hρ x
    split at h
    all_goals first
      | (cases h; done)
      | (rename_i e; cases h; rw [e] at hx; refine ⟨ρ x, ?_, hx⟩; simp only [execOp]; generalize ρ x = v at hx ⊢; cases hx; rfl)
  | binOp op t x y yt =>
    simp only [opP] at h
    obtain ⟨u, h1, h2⟩ := bin_sim h (hρ x) (hρ y) x y
    refine ⟨u, ?_, h2⟩
    simp only [execOp, Sem.run_bind] at h1 ⊢
    rw [h1]; rfl
  | unOp op t x =>
    simp only [opP] at h
    obtain ⟨u, h1, h2⟩ := un_sim (P := P) h (hρ x)
    exact ⟨u, by simp [execOp, h1], h2⟩
  | convert src dst x =>
    simp only [opP] at h
    have hx := hρ x
    split at h
    · rename_i k n e
      rw [e] at hx
      split at h
      · rename_i k' hk
        split at h
        · rename_i hs
          cases h
          obtain ⟨d, hd⟩ := Option.isSome_iff_exists.1 hs
          refine ⟨.int k' (k'.wrap n), ?_, .int _ _⟩
          simp [execOp, hx.int_inv, convert, run_under hd, run_under (int_under hk), Conv.intToInt]
        · cases h
      · cases h
    · rename_i s e
      rw [e] at hx
      split at h
      · rename_i hc
        cases h
        obtain ⟨d, hd⟩ := Option.isSome_iff_exists.1 hc.2
        refine ⟨.string ⟨s.toArray⟩, ?_, .str _⟩
        simp [execOp, hx.str_inv, convert, run_under hd, run_under (str_under hc.1)]
      · cases h
    · cases h
  | makeInterface t x =>
    simp only [opP] at h
    split at h
    · cases h
    · rename_i d hne hd
      cases h
      refine ⟨.iface t (ρ x), ?_, .iface _ _ _ (hρ x)⟩
      simp only [execOp, Instr.makeInterface, Sem.run_bind, run_under hd, Result.andThen_ok]
      cases d <;> first | rfl | exact absurd rfl (hne _)
    · cases h
  | makeFunc fn first caps =>
    cases fn with
    | func f =>
      simp only [opP] at h
      split at h
      · rename_i he
        cases h
        have : first = #[] := Array.eq_empty_of_size_eq_zero he
        subst this
        refine ⟨.func (.func f) #[] (caps.map ρ), by simp [execOp, Instr.makeFunc], ?_⟩
        have := VL.operands hρ caps.toList
        exact .fn _ _ _ (by simp) (fun i hi => by rw [← getD_toList]; simpa using this.2 i hi)
      · cases h
    | _ => simp [opP] at h
  | slice t x lo hi mx =>
    simp only [opP] at h
    obtain ⟨u, h1, h2⟩ := slice_sim h (hρ x) (OV.map hρ lo) (OV.map hρ hi) (OV.map hρ mx)
    exact ⟨u, by simp [execOp, h1], h2⟩
  | fieldAddr t x f =>
    simp only [opP] at h
    obtain ⟨u, h1, h2⟩ := fieldAddr_sim h (hρ x)
    exact ⟨u, by simp [execOp, h1], h2⟩
  | field t x f =>
    simp only [opP] at h
    obtain ⟨u, h1, h2⟩ := field_sim h (hρ x)
    exact ⟨u, by simp [execOp, h1], h2⟩
  | indexAddr t x i =>
    simp only [opP] at h
    obtain ⟨u, h1, h2⟩ := indexAddr_sim h (hρ x) (hρ i)
    exact ⟨u, by simp [execOp, h1], h2⟩
  | index t x i =>
    simp only [opP] at h
    obtain ⟨u, h1, h2⟩ := index_sim h (hρ x) (hρ i)
    exact ⟨u, by simp [execOp, h1], h2⟩
  | extract x i =>
    simp only [opP] at h
    have hx := hρ x
    split at h
    · rename_i vs e
      rw [e] at hx
      obtain ⟨va, e2, hva⟩ := VL.of_tup hx
      obtain ⟨u, hu, hV⟩ := hva.getElem? h
      refine ⟨u, ?_, hV⟩
      have hu' : va[i]? = some u := by simpa using hu
      simp [execOp, e2, Instr.extract, hu']
    · cases h
  | call c =>
    obtain ⟨callee, args, ats⟩ := c
    cases callee with
    | value f => simp [opP] at h
    | invoke r m => simp [opP] at h
    | builtin b =>
      cases b with
      | len =>
        simp only [opP] at h
        split at h
        · rename_i t x ht hx
          have hV := hρ x
          have hat : (args.map ρ)[0]? = some (ρ x) := by simp [hx]
          have key : ∀ n : Nat, (Builtin.len_ ats ty (args.map ρ)).run P w = .ok (goInt n) w → (execOp ρ ⟨dst, .call ⟨.builtin .len, args, ats⟩, ty, pos, after, guard⟩).run P w = .ok (.value (.int .i64 n)) w := fun n hn => by
            simp [execOp, resolve, invoke, builtin, hn, goInt]
          split at h
          · rename_i s e
            rw [e] at hV
            split at h
            · rename_i hs
              cases h
              refine ⟨_, key s.length ?_, .int _ _⟩
              simp [Builtin.len_, ht, hat, hV.str_inv, run_under (str_under hs), size_mk]
            · cases h
          · rename_i e
            rw [e] at hV
            split at h
            · rename_i hs
              cases h
              obtain ⟨et, he⟩ := Option.isSome_iff_exists.1 hs
              have := hV.slice_len
              refine ⟨_, key 0 ?_, .int _ _⟩
              simp only at this
              simp [Builtin.len_, ht, hat, this, run_under (elem_under he)]
            · cases h
          · rename_i sz es f e
            rw [e] at hV
            split at h
            · rename_i hs
              cases h
              obtain ⟨et, he⟩ := Option.isSome_iff_exists.1 hs
              have := hV.slice_len
              simp only at this
              obtain ⟨a, c, e2⟩ := this
              refine ⟨_, key es.length ?_, .int _ _⟩
              simp [Builtin.len_, ht, hat, e2, run_under (elem_under he)]
            · cases h
          · rename_i id off len cap sz l e
            rw [e] at hV
            split at h
            · rename_i hs
              cases h
              obtain ⟨et, he⟩ := Option.isSome_iff_exists.1 hs
              have := hV.slice_len
              simp only at this
              obtain ⟨a, c, e2⟩ := this
              refine ⟨_, key len ?_, .int _ _⟩
              simp [Builtin.len_, ht, hat, e2, run_under (elem_under he)]
            · cases h
          · rename_i e
            rw [e] at hV
            split at h
            · rename_i hs
              cases h
              obtain ⟨⟨kt, et⟩, he⟩ := Option.isSome_iff_exists.1 hs
              refine ⟨_, key 0 ?_, .int _ _⟩
              generalize hv : ρ x = v at hV hat
              cases hV
              simp [Builtin.len_, ht, hat, run_under (map_under he)]
            · cases h
          · cases h
        · cases h
      | min =>
        simp only [opP] at h
        obtain ⟨u, h1, h2⟩ := min_sim (P := P) _ _ (VL.operands hρ args.toList) h ty ats
        refine ⟨u, ?_, h2⟩
        have e : (args.toList.map ρ).toArray = args.map ρ := by apply Array.ext'; simp
        rw [e] at h1
        simp [execOp, resolve, invoke, builtin, h1]
      | max =>
        simp only [opP] at h
        obtain ⟨u, h1, h2⟩ := max_sim (P := P) _ _ (VL.operands hρ args.toList) h ty ats
        refine ⟨u, ?_, h2⟩
        have e : (args.toList.map ρ).toArray = args.map ρ := by apply Array.ext'; simp
        rw [e] at h1
        simp [execOp, resolve, invoke, builtin, h1]
      | _ => simp [opP] at h
  | _ => simp [opP] at h
end
end Go.Pv
