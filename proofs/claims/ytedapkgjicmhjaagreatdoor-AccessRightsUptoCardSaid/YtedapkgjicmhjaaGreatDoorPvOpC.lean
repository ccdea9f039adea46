/- A part of the proof that AccessRights returns true wherever its input is of bulk at most 1048576: what the functions that it reaches answer. No theorem of the claim stands here. -/
import Derived.Test.YtedapkgjicmhjaaGreatDoorPvOpB
set_option linter.unusedSimpArgs false
set_option linter.unusedVariables false
namespace Go.Pv
open Go Go.RowKit

section
variable {P : Program} {im : Nat → Prop} {w : World} {φ : Phi}

theorem elem_under {t e : TypeId} (h : tElem P t = some e) : P.underlying t = some (.slice e) := by
  unfold tElem at h; split at h <;> cases h; assumption
theorem arr_under {t n e} (h : tArr P t = some (n, e)) : P.underlying t = some (.array n e) := by
  unfold tArr at h; split at h <;> cases h; assumption
theorem str_under {t} (h : tIsStr P t = true) : P.underlying t = some .string := by
  unfold tIsStr at h; split at h <;> simp_all
theorem int_under {t k} (h : tInt P t = some k) : P.underlying t = some (.int k) := by
  unfold tInt at h; split at h <;> cases h; assumption
theorem map_under {t k e} (h : tMap P t = some (k, e)) : P.underlying t = some (.map k e) := by
  unfold tMap at h; split at h <;> cases h; assumption
theorem field_under {t f off ft} (h : tField P t f = some (off, ft)) : ∃ fs x, P.underlying t = some (.struct fs) ∧ fs[f]? = some x ∧ x.offset = off ∧ x.type = ft := by
  unfold tField at h
  split at h
  · rename_i fs hu
    cases e : fs[f]? with
    | none => simp [e] at h
    | some x => simp [e] at h; exact ⟨fs, x, hu, e, h.1, h.2⟩
  · cases h

theorem bnd_run {x : AV} {v : Value} (hV : V im w φ x v) {y c n : Nat} (h : bnd x y = some n) (hy : y ≤ c) : (∀ code, (Instr.sliceBound v c code).run P w = .ok n w) ∧ n ≤ y := by
  unfold bnd at h
  split at h
  · rename_i k i
    split at h
    · rename_i hi
      cases h
      rw [hV.int_inv]
      have hi2 : 0 ≤ i ∧ i ≤ (c : Int) := by omega
      simp only [Instr.sliceBound, asIntOf, Sem.run_bind, Sem.run_pure, Result.andThen_ok, hi2, and_self, if_true]
      exact ⟨fun _ => trivial, by omega⟩
    · cases h
  · cases h

/-- Optional operands and what they stand for. -/
def OV (im : Nat → Prop) (w : World) (φ : Phi) : Option AV → Option Value → Prop
  | none, none => True
  | some x, some v => V im w φ x v
  | _, _ => False
theorem OV.map {ρA : Operand → AV} {ρ : Operand → Value} (h : ∀ x, V im w φ (ρA x) (ρ x)) (o : Option Operand) : OV im w φ (o.map ρA) (o.map ρ) := by
  cases o <;> simp [OV, h]

theorem bounds_run {isSlice : Bool} {len c ca : Nat} (hca : ca ≤ c) {lo hi mx : Option AV} {vlo vhi vmx : Option Value} (h1 : OV im w φ lo vlo) (h2 : OV im w φ hi vhi) (h3 : OV im w φ mx vmx) {m h l : Nat}
    (em : bndD mx ca ca = some m) (eh : bndD hi len m = some h) (el : bndD lo 0 h = some l) (hx : hi.isSome = true ∨ mx.isNone = true) :
    (Instr.sliceBounds isSlice len c vlo vhi vmx).run P w = .ok (l, h, if mx.isSome then m else c) w ∧ l ≤ h ∧ (hi.isSome = true → h ≤ m) ∧ (hi.isSome = false → h = len) ∧ m ≤ ca := by
  have hm : m ≤ ca ∧ (mx.isSome = false → m = ca) ∧ (∀ v, vmx = some v → ∀ code, (Instr.sliceBound v c code).run P w = .ok m w) ∧ vmx.isSome = mx.isSome := by
    cases mx with
    | none =>
      cases vmx with
      | none => simp [bndD] at em; subst em; exact ⟨Nat.le_refl _, fun _ => rfl, (fun v e => by cases e), rfl⟩
      | some v => exact h3.elim
    | some x =>
      cases vmx with
      | none => exact h3.elim
      | some v =>
        have := bnd_run (P := P) h3 em hca
        exact ⟨this.2, (fun e => by cases e), (fun v' e => by cases e; exact this.1), rfl⟩
  obtain ⟨hm1, hm2, hm3, hm4⟩ := hm
  have hm' : m ≤ (if mx.isSome then m else c) := by
    cases e : mx.isSome with
    | true => simp
    | false => rw [hm2 e]; simpa using hca
  have hh : (hi.isSome = true → h ≤ m) ∧ (hi.isSome = false → h = len) ∧ (∀ v, vhi = some v → ∀ code, (Instr.sliceBound v (if mx.isSome then m else c) code).run P w = .ok h w) ∧ vhi.isSome = hi.isSome := by
    cases hi with
    | none =>
      cases vhi with
      | some v => exact h2.elim
      | none => simp [bndD] at eh; exact ⟨by simp, (fun _ => eh.symm), (fun v e => by cases e), rfl⟩
    | some x =>
      cases vhi with
      | none => exact h2.elim
      | some v =>
        have := bnd_run (P := P) h2 eh hm'
        exact ⟨fun _ => this.2, by simp, (fun v' e => by cases e; exact this.1), rfl⟩
  obtain ⟨hh1, hh2, hh3, hh4⟩ := hh
  have hl : l ≤ h ∧ (∀ v, vlo = some v → ∀ code, (Instr.sliceBound v h code).run P w = .ok l w) ∧ (vlo = none → l = 0) := by
    cases lo with
    | none =>
      cases vlo with
      | none => simp [bndD] at el; exact ⟨by omega, (fun v e => by cases e), fun _ => el.symm⟩
      | some v => exact h1.elim
    | some x =>
      cases vlo with
      | none => exact h1.elim
      | some v =>
        have := bnd_run (P := P) h1 el (Nat.le_refl _)
        exact ⟨this.2, (fun v' e => by cases e; exact this.1), (fun e => by cases e)⟩
  obtain ⟨hl1, hl2, hl3⟩ := hl
  refine ⟨?_, hl1, hh1, hh2, hm1⟩
  cases vmx with
  | some vm =>
    have e1 : mx.isSome = true := by rw [← hm4]; rfl
    have hm3 := hm3 vm rfl
    cases vhi with
    | none =>
      have e2 : hi.isSome = false := by rw [← hh4]; rfl
      rcases hx with e | e
      · rw [e] at e2; cases e2
      · cases mx <;> simp_all
    | some vh =>
      have hh3 := hh3 vh rfl
      rw [e1] at hh3
      simp only [if_true] at hh3
      cases vlo with
      | none => have := hl3 rfl; subst this; simp [Instr.sliceBounds, hm3, hh3, e1]
      | some vl => have hl2 := hl2 vl rfl; simp [Instr.sliceBounds, hm3, hh3, e1, hl2]
  | none =>
    have e1 : mx.isSome = false := by rw [← hm4]; rfl
    cases vhi with
    | none =>
      have e2 := hh2 (by rw [← hh4]; rfl)
      subst e2
      cases vlo with
      | none => have := hl3 rfl; subst this; simp [Instr.sliceBounds, e1]
      | some vl => have hl2 := hl2 vl rfl; simp [Instr.sliceBounds, e1, hl2]
    | some vh =>
      have hh3 := hh3 vh rfl
      rw [e1] at hh3
      simp only [Bool.false_eq_true, if_false] at hh3
      cases vlo with
      | none => have := hl3 rfl; subst this; simp [Instr.sliceBounds, hh3, e1]
      | some vl => have hl2 := hl2 vl rfl; simp [Instr.sliceBounds, hh3, e1, hl2]

theorem extract_mk (s : List UInt8) (l h : Nat) : (⟨s.toArray⟩ : ByteArray).extract l h = ⟨((s.take h).drop l).toArray⟩ := by
  apply ByteArray.ext
  simp [ByteArray.data_extract, List.drop_take]

theorem slice_sim {t : TypeId} {x z : AV} {v : Value} {lo hi mx : Option AV} {vlo vhi vmx : Option Value} (h : sliceA P t x lo hi mx = some z) (hx : V im w φ x v) (h1 : OV im w φ lo vlo) (h2 : OV im w φ hi vhi) (h3 : OV im w φ mx vmx) :
    ∃ u, (Instr.sliceAt t v vlo vhi vmx).run P w = .ok u w ∧ V im w φ z u := by
  unfold sliceA at h
  split at h
  · -- a string
    rename_i s
    split at h
    · rename_i hc
      obtain ⟨hs, hm⟩ := hc
      have u := str_under hs
      cases eh : bndD hi s.length s.length with
      | none => simp [eh] at h
      | some hh =>
        simp only [eh, Option.bind_some] at h
        cases el : bndD lo 0 hh with
        | none => simp [el] at h
        | some l =>
          simp only [el, Option.bind_some] at h
          cases h
          rw [hx.str_inv]
          cases mx with
          | some _ => simp at hm
          | none =>
            cases vmx with
            | some _ => exact h3.elim
            | none =>
              have := bounds_run (P := P) (isSlice := false) (len := s.length) (Nat.le_refl s.length) h1 h2 h3 (by rfl) eh el (.inr rfl)
              refine ⟨_, ?_, .str _⟩
              simp [Instr.sliceAt, run_under u, Instr.slice, size_mk, this.1, extract_mk]
    · cases h
  · -- nil
    split at h
    · rename_i hc
      obtain ⟨e, he, hc2⟩ : ∃ e, tElem P t = some e ∧ (tSize P e).isSome = true := by
        cases he : tElem P t with
        | none => simp [he] at hc
        | some e => exact ⟨e, rfl, by simpa [he] using hc⟩
      have u := elem_under he
      cases em : bndD mx 0 0 with
      | none => simp [em] at h
      | some m =>
        simp only [em, Option.bind_some] at h
        cases eh : bndD hi 0 m with
        | none => simp [eh] at h
        | some hh =>
          simp only [eh, Option.bind_some] at h
          cases el : bndD lo 0 hh with
          | none => simp [el] at h
          | some l =>
            simp only [el, Option.bind_some] at h
            split at h
            · rename_i hxx
              cases h
              cases hx
              have hb := bounds_run (P := P) (isSlice := true) (len := 0) (Nat.le_refl 0) h1 h2 h3 em eh el hxx
              refine ⟨.slice none 0 0, ?_, .nils⟩
              have hm0 : m = 0 := by omega
              have hh0 : hh = 0 := by
                cases e1 : hi.isSome with
                | true => have := hb.2.2.1 e1; omega
                | false => exact hb.2.2.2.1 e1
              have hl0 : l = 0 := by omega
              subst hm0 hh0 hl0
              have hb1 := hb.1
              obtain ⟨sz, hsz⟩ := Option.isSome_iff_exists.1 hc2
              simp [Instr.sliceAt, run_under u, Instr.slice, hb1, run_size hsz]
            · cases h
    · cases h
  · -- a slice that nobody changes
    rename_i sz es full
    split at h
    · rename_i e he
      have u := elem_under he
      split at h
      · rename_i hsz
        cases em : bndD mx es.length es.length with
        | none => simp [em] at h
        | some m =>
          simp only [em, Option.bind_some] at h
          cases eh : bndD hi es.length m with
          | none => simp [eh] at h
          | some hh =>
            simp only [eh, Option.bind_some] at h
            cases el : bndD lo 0 hh with
            | none => simp [el] at h
            | some l =>
              simp only [el, Option.bind_some] at h
              split at h
              · rename_i hxx
                cases h
                cases hx with
                | lst _ _ _ a cap vs k1 k2 k3 k4 k4o k5 k6 =>
                  obtain ⟨hr, b1, b2, b3, b4⟩ := bounds_run (P := P) (isSlice := true) (len := es.length) k5 h1 h2 h3 em eh el hxx
                  have hhl : hh ≤ es.length := by
                    cases e1 : hi.isSome with
                    | true => have := b2 e1; omega
                    | false => have := b3 e1; omega
                  have hm1 : hh ≤ (if mx.isSome then m else cap) := by
                    cases e1 : hi.isSome with
                    | true =>
                      have := b2 e1
                      split <;> omega
                    | false =>
                      have := b3 e1
                      rcases hxx with e2 | e2
                      · rw [e1] at e2; cases e2
                      · cases mx with
                        | none => simp; omega
                        | some _ => simp at e2
                  have hlen : ((es.take hh).drop l).length = hh - l := by simp; omega
                  have hget : ∀ i, i < hh - l → ((es.take hh).drop l).getD i [] = es.getD (l + i) [] := fun i hi => by
                    have : l + i < hh := by omega
                    simp [List.getD_eq_getElem?_getD, List.getElem?_drop, List.getElem?_take, this]
                  generalize hM : (if mx.isSome then m else cap) = M at hr hm1
                  refine ⟨.slice (some (if M = l then a else a.add (l * sz))) (hh - l) (M - l), ?_, ?_⟩
                  · simp only [Instr.sliceAt, Sem.run_bind, run_under u, Result.andThen_ok, Instr.slice, hr, run_size hsz]
                    split <;> simp
                  · rw [← hlen]
                    by_cases hMl : M = l
                    · have : hh = l := by omega
                      subst this
                      have hnil : (es.take hh).drop hh = [] := List.eq_nil_of_length_eq_zero (by rw [hlen]; omega)
                      rw [hnil, hMl]
                      refine .lst sz [] _ _ _ (fun _ _ => .nilFunc) (fun e => absurd rfl e) (fun i hi => by simp at hi) (fun i o hi => by simp at hi) (fun i o hi => by simp at hi) (fun i o hi => by simp at hi) (by simp) (fun _ => by simp)
                    · rw [if_neg hMl]
                      refine .lst sz _ _ _ _ (fun i o => vs (l + i) o) (fun he => ?_) (fun i hi => ?_) (fun i o hi ho => ?_) (fun i o hi ho => ?_) (fun i o hi ho => ?_) (by omega) (fun hf => ?_)
                      · rw [add_block]
                        refine k1 (fun e => ?_)
                        subst e
                        simp at he
                      · rw [hlen] at hi
                        rw [hget i hi]
                        exact k2 _ (by omega)
                      · rw [hlen] at hi
                        rw [add_add, show l * sz + (i * sz + o) = (l + i) * sz + o by rw [Nat.add_mul, Nat.add_assoc]]
                        exact k3 _ o (by omega) ho
                      · rw [hlen] at hi
                        rw [hget i hi]
                        exact k4 _ o (by omega) ho
                      · rw [hlen] at hi
                        rw [hget i hi]
                        exact k4o _ o (by omega) ho
                      · rw [hlen]
                        split at hf
                        · rename_i e1
                          simp at hf
                          rw [if_pos e1] at hM
                          omega
                        · rename_i e1
                          simp at hf
                          have := k6 hf.1
                          rw [if_neg e1] at hM
                          omega
              · cases h
      · cases h
    · cases h
  · -- an array of the call's own
    rename_i id off len cap sz loose
    split at h
    · rename_i e he
      have u := elem_under he
      split at h
      · rename_i hsz
        cases em : bndD mx cap cap with
        | none => simp [em] at h
        | some m =>
          simp only [em, Option.bind_some] at h
          cases eh : bndD hi len m with
          | none => simp [eh] at h
          | some hh =>
            simp only [eh, Option.bind_some] at h
            cases el : bndD lo 0 hh with
            | none => simp [el] at h
            | some l =>
              simp only [el, Option.bind_some] at h
              split at h
              · rename_i hxx
                cases hx with
                | arr _ _ _ _ _ _ mm c k0 k1 k2 k3 k4 k5 =>
                  obtain ⟨hr, b1, b2, b3, b4⟩ := bounds_run (P := P) (isSlice := true) (len := len) k3 h1 h2 h3 em eh el hxx
                  have hmm : mx.isSome = false → m = cap := fun e1 => by
                    cases mx with
                    | none => simp [bndD] at em; omega
                    | some _ => simp at e1
                  have hhm : hh ≤ m := by
                    cases e1 : hi.isSome with
                    | true => exact b2 e1
                    | false =>
                      have := b3 e1
                      rcases hxx with e2 | e2
                      · rw [e1] at e2; cases e2
                      · have := hmm (by cases mx <;> simp_all)
                        omega
                  have hM1 : m ≤ (if mx.isSome then m else c) ∧ (if mx.isSome then m else c) ≤ c := by
                    split
                    · omega
                    · rename_i e1
                      have := hmm (by simpa using e1)
                      omega
                  have hM2 : (loose && mx.isNone) = false → (if mx.isSome then m else c) = m := fun e1 => by
                    split
                    · rfl
                    · rename_i e2
                      have h1 := hmm (by simpa using e2)
                      have : loose = false := by
                        cases mx with
                        | none => simpa using e1
                        | some _ => simp at e2
                      have := k4 this
                      omega
                  generalize hM : (if mx.isSome then m else c) = M at hr hM1 hM2
                  have hrun : (Instr.sliceAt t (.slice (some ⟨mm.blk, off * sz, none⟩) len c) vlo vhi vmx).run P w = .ok (.slice (some (if M = l then (⟨mm.blk, off * sz, none⟩ : Addr) else (⟨mm.blk, off * sz, none⟩ : Addr).add (l * sz))) (hh - l) (M - l)) w := by
                    simp only [Instr.sliceAt, Sem.run_bind, run_under u, Result.andThen_ok, Instr.slice, hr, run_size hsz]
                    split <;> simp
                  refine ⟨_, hrun, ?_⟩
                  split at h
                  · rename_i hml
                    cases h
                    have e0 : hh - l = 0 := by omega
                    rw [e0]
                    refine .lst sz [] _ _ _ (fun _ _ => .nilFunc) (fun e => absurd rfl e) (fun i hi => by simp at hi) (fun i o hi => by simp at hi) (fun i o hi => by simp at hi) (fun i o hi => by simp at hi) (by simp) (fun hf => ?_)
                    have : M = m := by
                      refine hM2 ?_
                      cases loose <;> cases mx <;> simp_all
                    simp
                    omega
                  · rename_i hml
                    cases h
                    have hMl : M ≠ l := by omega
                    rw [if_neg hMl, add_plain, show off * sz + l * sz = (off + l) * sz by rw [Nat.add_mul]]
                    refine .arr id (off + l) (hh - l) (m - l) sz _ mm _ k0 k1 (by omega) (by omega) (fun e1 => by have := hM2 e1; omega) ?_
                    refine Nat.le_trans (Nat.mul_le_mul_right sz ?_) k5
                    omega
              · cases h
      · cases h
    · cases h
  · cases h

theorem V.slice_len {x : AV} {v : Value} (h : V im w φ x v) : (match x with | .nils => v = .slice none 0 0 | .lst _ es _ => ∃ a c, v = .slice (some a) es.length c | .arr _ _ len _ _ _ => ∃ a c, v = .slice (some a) len c | _ => True) := by
  cases h <;> first | trivial | rfl | exact ⟨_, _, rfl⟩

theorem indexAddr_sim {t : TypeId} {x ix z : AV} {v vi : Value} (h : indexAddrA P t x ix = some z) (hx : V im w φ x v) (hi : V im w φ ix vi) :
    ∃ u, (Instr.indexAt t v vi).run P w = .ok u w ∧ V im w φ z u := by
  unfold indexAddrA at h
  split at h
  · rename_i k i
    rw [hi.int_inv]
    split at h
    · rename_i sz es full
      split at h
      · rename_i e he
        split at h
        · rename_i hc
          obtain ⟨hsz, h0, hlt⟩ := hc
          cases h
          have u := elem_under he
          cases hx with
          | lst _ _ _ a cap vs k1 k2 k3 k4 k4o k5 k6 =>
            have hil : i.toNat < es.length := by omega
            refine ⟨.pointer (some (a.add (i.toNat * sz))), ?_, ?_⟩
            · simp [Instr.indexAt, asIntOf, run_under u, h0, hlt, run_size hsz]
            · refine .cptr _ _ (fun o => vs i.toNat o) (fun _ => ?_) (fun o ho => ?_) (fun o ho => ?_) (fun o ho => k4o _ o hil (by rwa [k2 _ hil] at ho))
              · rw [add_block]
                exact k1 (by intro e0; subst e0; simp at hil)
              · rw [k2 _ hil] at ho
                rw [add_add]
                exact k3 _ o hil ho
              · rw [k2 _ hil] at ho
                exact k4 _ o hil ho
        · cases h
      · cases h
    · rename_i id off len cap sz loose
      split at h
      · rename_i e he
        split at h
        · rename_i hc
          obtain ⟨hsz, h0, hlt⟩ := hc
          cases h
          have u := elem_under he
          cases hx with
          | arr _ _ _ _ _ _ mm c k0 k1 k2 k3 k4 k5 =>
            refine ⟨.pointer (some ⟨mm.blk, (off + i.toNat) * mm.sz + 0, none⟩), ?_, .ptr _ _ _ mm k0⟩
            simp [Instr.indexAt, asIntOf, run_under u, h0, hlt, run_size hsz, add_plain, k1, Nat.add_mul]
        · cases h
      · cases h
    · rename_i id j o
      split at h
      · rename_i n e ha
        split at h
        · rename_i sz hsz
          split at h
          · rename_i hc
            obtain ⟨h0, hlt⟩ := hc
            cases h
            have u := arr_under ha
            cases hx with
            | ptr _ _ _ mm k0 =>
              refine ⟨.pointer (some ⟨mm.blk, j * mm.sz + (o + i.toNat * sz), none⟩), ?_, .ptr _ _ _ mm k0⟩
              simp [Instr.indexAt, Instr.sureAddr, asIntOf, run_under u, h0, hlt, run_size hsz, add_plain, Nat.add_assoc]
          · cases h
        · cases h
      · cases h
    · rename_i c
      split at h
      · rename_i n e ha
        split at h
        · rename_i sz hsz
          split at h
          · rename_i hc
            obtain ⟨h0, hlt⟩ := hc
            cases h
            have u := arr_under ha
            cases hx with
            | cptr _ a vs k1 k2 k3 k3o =>
              refine ⟨.pointer (some (a.add (i.toNat * sz))), ?_, ?_⟩
              · simp [Instr.indexAt, Instr.sureAddr, asIntOf, run_under u, h0, hlt, run_size hsz]
              · refine .cptr _ _ (fun o => vs (i.toNat * sz + o)) (fun he => ?_) (fun o ho => ?_) (fun o ho => ?_) (fun o ho => by
                  have := k3o (i.toNat * sz + o) (by simp at ho; omega)
                  simpa [List.getD_eq_getElem?_getD, List.getElem?_drop] using this)
                · rw [add_block]
                  exact k1 (by intro e0; subst e0; simp at he)
                · rw [add_add]
                  exact k2 _ (by simp at ho; omega)
                · have := k3 (i.toNat * sz + o) (by simp at ho; omega)
                  simpa [List.getD_eq_getElem?_getD, List.getElem?_drop] using this
          · cases h
        · cases h
      · cases h
    · cases h
  · cases h

theorem index_sim {t : TypeId} {x ix z : AV} {v vi : Value} (h : indexA P t x ix = some z) (hx : V im w φ x v) (hi : V im w φ ix vi) :
    ∃ u, (Instr.index t v vi).run P w = .ok u w ∧ V im w φ z u := by
  unfold indexA at h
  split at h
  · rename_i k i
    rw [hi.int_inv]
    split at h
    · rename_i s
      split at h
      · rename_i hc
        obtain ⟨hs, h0, hlt⟩ := hc
        cases h
        have u := str_under hs
        rw [hx.str_inv]
        refine ⟨.int .u8 (s.getD i.toNat 0).toNat, ?_, .int _ _⟩
        have hl : i.toNat < s.length := by omega
        have hl2 : i.toNat < (⟨s.toArray⟩ : ByteArray).size := by rw [size_mk]; exact hl
        have e : (⟨s.toArray⟩ : ByteArray)[i.toNat]? = some (s.getD i.toNat 0) := by
          rw [ByteArray.getElem?_lt' _ _ hl2]
          show some ((⟨s.toArray⟩ : ByteArray).data[i.toNat]) = _
          simp [List.getD_eq_getElem?_getD, hl]
        simp [Instr.index, asIntOf, run_under u, h0, e]
      · cases h
    · rename_i cs
      split at h
      · rename_i n e ha
        split at h
        · rename_i sz hsz
          split at h
          · rename_i hc
            obtain ⟨h0, hlt⟩ := hc
            have u := arr_under ha
            obtain ⟨va, rfl, hva⟩ := VL.of_agg hx
            obtain ⟨u', hu, hV⟩ := part_sim (P := P) hva h
            exact ⟨u', by simp [Instr.index, asIntOf, run_under u, h0, hlt, run_size hsz, hu], hV⟩
          · cases h
        · cases h
      · cases h
    · cases h
  · cases h

theorem fieldAddr_sim {t : TypeId} {x z : AV} {v : Value} {f : Nat} (h : fieldAddrA P t x f = some z) (hx : V im w φ x v) :
    ∃ u, (Instr.fieldAt t v f).run P w = .ok u w ∧ V im w φ z u := by
  unfold fieldAddrA at h
  split at h
  · rename_i off ft hf
    obtain ⟨fs, xf, u, hx1, rfl, rfl⟩ := field_under hf
    split at h
    · rename_i n hsz
      split at h
      · rename_i id i o
        cases h
        cases hx with
        | ptr _ _ _ mm k0 =>
          refine ⟨.pointer (some ⟨mm.blk, i * mm.sz + (o + xf.offset), none⟩), ?_, .ptr _ _ _ mm k0⟩
          simp [Instr.fieldAt, Instr.sureAddr, run_under u, hx1, fieldPlace, run_size hsz, add_plain, Nat.add_assoc]
      · rename_i c
        cases h
        cases hx with
        | cptr _ a vs k1 k2 k3 k3o =>
          refine ⟨.pointer (some (a.add xf.offset)), ?_, ?_⟩
          · simp [Instr.fieldAt, Instr.sureAddr, run_under u, hx1, fieldPlace, run_size hsz]
          · refine .cptr _ _ (fun o => vs (xf.offset + o)) (fun he => ?_) (fun o ho => ?_) (fun o ho => ?_) (fun o ho => by
              have := k3o (xf.offset + o) (by simp at ho; omega)
              simpa [List.getD_eq_getElem?_getD, List.getElem?_drop] using this)
            · rw [add_block]
              exact k1 (by intro e0; subst e0; simp at he)
            · rw [add_add]
              exact k2 _ (by simp at ho; omega)
            · have := k3 (xf.offset + o) (by simp at ho; omega)
              simpa [List.getD_eq_getElem?_getD, List.getElem?_drop] using this
      · cases h
    · cases h
  · cases h

theorem field_sim {t : TypeId} {x z : AV} {v : Value} {f : Nat} (h : fieldA P t x f = some z) (hx : V im w φ x v) :
    ∃ u, (Instr.field t v f).run P w = .ok u w ∧ V im w φ z u := by
  unfold fieldA at h
  split at h
  · rename_i off ft cs hf
    obtain ⟨fs, xf, u, hx1, rfl, rfl⟩ := field_under hf
    obtain ⟨va, rfl, hva⟩ := VL.of_agg hx
    obtain ⟨u', hu, hV⟩ := part_sim (P := P) hva h
    exact ⟨u', by simp [Instr.field, run_under u, hx1, asAgg, hu], hV⟩
  · cases h

end
end Go.Pv
