/- A part of the proof that AccessRights returns true wherever its input is of bulk at most 1048576: what the functions that it reaches answer. No theorem of the claim stands here. -/
import Derived.Test.YtedapkgjicmhjaaGreatDoorPvHpB
set_option linter.unusedSimpArgs false
set_option linter.unusedVariables false
namespace Go.Pv
open Go Go.RowKit

section
variable {P : Program} {im : Nat → Prop} {w : World} {φ : Phi} {h : Hp}

/-- A world in which one block alone has changed. -/
structure Turned (w w' : World) (b : Nat) : Prop where
  os : w'.os = w.os
  tape : w'.tape = w.tape
  output : w'.output = w.output
  size : w'.heap.size = w.heap.size
  other : ∀ k, k ≠ b → w'.heap[k]? = w.heap[k]?

theorem Turned.trans {w w1 w2 : World} {b : Nat} (a : Turned w w1 b) (c : Turned w1 w2 b) : Turned w w2 b :=
  ⟨c.os.trans a.os, c.tape.trans a.tape, c.output.trans a.output, c.size.trans a.size, fun k hk => (c.other k hk).trans (a.other k hk)⟩
theorem Turned.refl (w : World) (b : Nat) : Turned w w b := ⟨rfl, rfl, rfl, rfl, fun _ _ => rfl⟩

theorem turned_setCell (w : World) (b o : Nat) (v : Value) : Turned w (w.setCell ⟨b, o, none⟩ v) b :=
  ⟨rfl, rfl, rfl, by simp, fun k hk => Below.heap_setCell w ⟨b, o, none⟩ v k hk⟩
theorem setCell_block {b : Nat} {c : Array Value} {ty : TypeId} {frz : Nat × Nat} (hb : w.heap[b]? = some (.cells c ty frz)) (o : Nat) (v : Value) :
    (w.setCell ⟨b, o, none⟩ v).heap[b]? = some (.cells (c.setIfInBounds o v) ty frz) := by
  simp [World.setCell, Array.getElem?_modify, hb]

theorem seg_get {α : Type} (d : α) (l vs : List α) (b : Nat) (h : b + vs.length ≤ l.length) (j : Nat) :
    (l.take b ++ vs ++ l.drop (b + vs.length)).getD j d = if b ≤ j ∧ j < b + vs.length then vs.getD (j - b) d else l.getD j d := by
  have hb : (l.take b).length = b := by simp; omega
  by_cases h1 : j < b
  · rw [if_neg (by omega), List.append_assoc]
    simp only [List.getD_eq_getElem?_getD]
    rw [List.getElem?_append_left (by omega), List.getElem?_take, if_pos h1]
  · by_cases h2 : j < b + vs.length
    · rw [if_pos (by omega)]
      simp only [List.getD_eq_getElem?_getD]
      rw [List.getElem?_append_left (by simp; omega), List.getElem?_append_right (by omega), hb]
    · rw [if_neg (by omega)]
      simp only [List.getD_eq_getElem?_getD]
      rw [List.getElem?_append_right (by simp; omega), List.getElem?_drop]
      congr 2
      simp
      omega
theorem setAt_get (e vs : List AV) (o : Nat) (h : o + vs.length ≤ e.length) (j : Nat) : (setAt e o vs).getD j .no = if o ≤ j ∧ j < o + vs.length then vs.getD (j - o) .no else e.getD j .no := by
  unfold setAt
  exact seg_get AV.no e vs o h j
theorem setAt_len (e vs : List AV) (o : Nat) (h : o + vs.length ≤ e.length) : (setAt e o vs).length = e.length := by simp [setAt]; omega

/-- Cells stored one behind the other. -/
theorem storeCells_run (b o : Nat) (ty : TypeId) (frz : Nat × Nat) : ∀ (vs : List Value) (i : Nat) (c : Array Value) (w : World), w.heap[b]? = some (.cells c ty frz) → o + i + vs.length ≤ c.size → (∀ v ∈ vs, v.oneCell' = true) →
    (∀ k, k < c.size → ¬ (frz.1 ≤ k ∧ k < frz.2)) →
    ∃ c' w', (storeCells ⟨b, o, none⟩ vs i).run P w = .ok () w' ∧ w'.heap[b]? = some (.cells c' ty frz) ∧ c'.toList = c.toList.take (o + i) ++ vs ++ c.toList.drop (o + i + vs.length) ∧ Turned w w' b := by
  intro vs
  induction vs with
  | nil => intro i c w hb _ _ _; exact ⟨c, w, rfl, hb, by simp, Turned.refl w b⟩
  | cons v r ih =>
    intro i c w hb hl h1 hf
    have hlt : o + i < c.size := by simp at hl; omega
    have hc : w.cell? ⟨b, o + i, none⟩ = some (c.getD (o + i) undef) := cell_of_block hb hlt
    have hfr : w.frozen? ⟨b, o + i, none⟩ = false := frozen_of_block hb (hf _ hlt)
    have hst : (store ((⟨b, o, none⟩ : Addr).add i) v).run P w = .ok () (w.setCell ⟨b, o + i, none⟩ v) := by
      rw [add_plain, run_store P w _ v .plain (h1 v (by simp)), hc]
      simp [hfr]
    obtain ⟨c', w', k1, k2, k3, k4⟩ := ih (i + 1) (c.setIfInBounds (o + i) v) (w.setCell ⟨b, o + i, none⟩ v) (setCell_block hb _ v) (by simp at hl ⊢; omega) (fun v hv => h1 v (by simp [hv])) (by simpa using hf)
    refine ⟨c', w', ?_, k2, ?_, (turned_setCell w b _ v).trans k4⟩
    · simp only [storeCells, Sem.run_bind, hst, Result.andThen_ok]
      exact k1
    · rw [k3]
      simp only [Array.toList_setIfInBounds, List.length_cons]
      rw [show o + (i + 1) = o + i + 1 by omega, show o + i + 1 + r.length = o + i + (r.length + 1) by omega]
      rw [List.take_succ_eq_append_getElem (by simpa using hlt), List.drop_set]
      simp only [List.getElem_set_self]
      rw [List.take_set_of_le (by omega)]
      have : ¬ (o + i + (r.length + 1) ≤ o + i) := by omega
      simp [this]

theorem storeCells_get {b o : Nat} {ty : TypeId} {frz : Nat × Nat} {vs : List Value} {c : Array Value} (hb : w.heap[b]? = some (.cells c ty frz)) (hl : o + vs.length ≤ c.size) (h1 : ∀ v ∈ vs, v.oneCell' = true) (hf : ∀ k, k < c.size → ¬ (frz.1 ≤ k ∧ k < frz.2)) :
    ∃ c' w', (storeCells ⟨b, o, none⟩ vs).run P w = .ok () w' ∧ w'.heap[b]? = some (.cells c' ty frz) ∧ c'.size = c.size ∧ (∀ j, c'.getD j undef = if o ≤ j ∧ j < o + vs.length then vs.getD (j - o) undef else c.getD j undef) ∧ Turned w w' b := by
  obtain ⟨c', w', k1, k2, k3, k4⟩ := storeCells_run (P := P) b o ty frz vs 0 c w hb (by simpa using hl) h1 hf
  refine ⟨c', w', k1, k2, ?_, fun j => ?_, k4⟩
  · have := congrArg List.length k3
    simp at this
    omega
  · rw [← getD_toList c' j undef, k3, Nat.add_zero, seg_get undef _ _ _ (by simpa using hl), getD_toList c j undef]

/-- One object is written. -/
theorem Rel.write {w' : World} (hR : Rel im w φ h) {id : Nat} {m : Meta} (hm : φ id = some m) (hlive : h id ≠ .dead) (him : ¬ im m.blk) (ht : Turned w w' m.blk) {ob : AO} (ho : ObjOK im w' φ m ob) :
    Rel im w' φ (upd h id ob) ∧ Grow im w φ im w' φ := by
  have hk : ∀ b, im b → w'.heap[b]? = w.heap[b]? := fun b hb => ht.other b (fun e => him (e ▸ hb))
  refine ⟨⟨fun b hb => by rw [ht.size]; exact hR.imlt b hb, fun i m' hm' => by rw [ht.size]; exact hR.lt i m' hm', fun i m' hm' => ?_, fun i i' m1 m2 h1 h2 e => ?_⟩,
    ⟨ht.os, ht.tape, ht.output, by rw [ht.size]; exact Nat.le_refl _, Phi.le_refl _, fun _ h => h, hk, fun b hb hn => ht.other b (fun e => hn id m hm e.symm), fun i m' hm' => .inr ⟨i, m', hm', rfl⟩, fun _ h => .inl h⟩⟩
  · by_cases e : i = id
    · subst e
      rw [hm] at hm'
      cases hm'
      simp only [upd, if_true]
      exact ho
    · simp only [upd, e, if_false]
      by_cases eb : m'.blk = m.blk
      · rcases hR.inj i id m' m hm' hm eb with h1 | h1 | h1
        · exact absurd h1 e
        · rw [h1]; trivial
        · exact absurd h1 hlive
      · exact (hR.obj i m' hm').mono (Phi.le_refl _) (fun b hb => ⟨hb, hk b hb⟩) (ht.other _ eb) (fun h => h)
  · rcases hR.inj i i' m1 m2 h1 h2 e with k | k | k
    · exact .inl k
    · by_cases e1 : i = id
      · subst e1; exact absurd k hlive
      · exact .inr (.inl (by simp [upd, e1, k]))
    · by_cases e1 : i' = id
      · subst e1; exact absurd k hlive
      · exact .inr (.inr (by simp [upd, e1, k]))

theorem row_live {es fr} (e : h 0 = .row es fr) : h 0 ≠ .dead := by rw [e]; intro h; cases h

/-- A part of a row is overwritten: the row behind it. -/
theorem row_write {w' : World} {m : Meta} {es es' : List (List AV)} {c c' : Array Value} {ty : TypeId} {frz : Nat × Nat} (hO : ObjOK im w φ m (.row es false)) (hb : w.heap[m.blk]? = some (.cells c ty frz))
    (hb' : w'.heap[m.blk]? = some (.cells c' ty frz)) (hs : c'.size = c.size) (ht : Turned w w' m.blk) (hl : ∀ i, i < es'.length → (es'.getD i []).length = m.sz) (hlen : es'.length * m.sz ≤ m.cells)
    (hv : ∀ i o, i < es'.length → o < m.sz → V im w φ ((es'.getD i []).getD o .no) (c'.getD (i * m.sz + o) undef) ∧ ((es'.getD i []).getD o .no).one = true) : ObjOK im w' φ m (.row es' false) := by
  obtain ⟨c0, ty0, frz0, h1, h2, h3, h4, h5, h6, h7, h8⟩ := hO
  rw [hb] at h1
  cases h1
  have him := h8 rfl
  exact ⟨c', ty, frz, hb', by rw [hs]; exact h2, hlen, hl, fun i o hi ho => ⟨(hv i o hi ho).1.mono (Phi.le_refl _) fun b hb => ⟨hb, ht.other b (fun e => him (e ▸ hb))⟩, (hv i o hi ho).2⟩, h6, (fun e => by cases e), fun _ => him⟩

theorem idx_other {i i' sz o k len : Nat} (hk : k < sz) (ho : o + len ≤ sz) : (i * sz + o ≤ i' * sz + k ∧ i' * sz + k < i * sz + o + len) ↔ (i' = i ∧ o ≤ k ∧ k < o + len) := by
  constructor
  · rintro ⟨h1, h2⟩
    rcases Nat.lt_trichotomy i' i with h | h | h
    · have := Nat.mul_le_mul_right sz (show i' + 1 ≤ i from h)
      rw [Nat.add_mul, Nat.one_mul] at this
      omega
    · subst h; omega
    · have := Nat.mul_le_mul_right sz (show i + 1 ≤ i' from h)
      rw [Nat.add_mul, Nat.one_mul] at this
      omega
  · rintro ⟨rfl, h1, h2⟩
    omega

theorem opS_sim {ρA : Operand → AV} {ρ : Operand → Value} (hρ : ∀ x, V im w φ (ρA x) (ρ x)) (hR : Rel im w φ h) (o : Oper) {n id : Nat} {ob : AO} (hv : opS P ρA o.op h = some (id, ob)) :
    ∃ w', (execOp ρ o).run P w = .ok .skip w' ∧ Out im w φ n n (upd h id ob) .no im w' φ undef := by
  obtain ⟨dst, op, ty, pos, after, guard⟩ := o
  simp only at hv
  cases op with
  | store t a x =>
    simp only [opS] at hv
    have ha := hρ a
    have hx := hρ x
    split at hv
    · rename_i id' i o e
      rw [e] at ha
      split at hv
      · rename_i es he
        split at hv
        · rename_i el hel
          split at hv
          · rename_i el' hw
            cases hv
            generalize hav : ρ a = av at ha
            cases ha with
            | ptr _ _ _ m hm =>
              have hO := hR.obj id m hm
              rw [he] at hO
              have hO' := hO
              obtain ⟨c, cty, frz, h1, h2, h3, h4, h5, h6, h7, h8⟩ := hO'
              have hi := (List.getElem?_eq_some_iff.1 hel).1
              have hed : es.getD i [] = el := by simp [List.getD_eq_getElem?_getD, hel]
              have hll : el.length = m.sz := by rw [← hed]; exact h4 i hi
              unfold writeAt at hw
              split at hw
              · rename_i hc
                obtain ⟨w1, w2, w3⟩ := hc
                cases hw
                have hcl := hx.cellsL
                have hcs : (ρ x).cells.size = (ρA x).cells.length := by have := hcl.1; simpa using this
                have hle : i * m.sz + m.sz ≤ es.length * m.sz := by
                  have := Nat.mul_le_mul_right m.sz (show i + 1 ≤ es.length from hi)
                  rwa [Nat.add_mul, Nat.one_mul] at this
                obtain ⟨c', w', k1, k2, k3, k4, k5⟩ := storeCells_get (P := P) (o := i * m.sz + o) (vs := (ρ x).cells.toList) h1 (by simp; omega) (hcl.ones w3) (fun k hk => h6 k (by omega))
                have hwr : ObjOK im w' φ m (.row (es.set i (setAt el o (ρA x).cells)) false) := by
                  refine row_write hO h1 k2 k3 k5 (set_lens (by rw [setAt_len _ _ _ w2, hll]) h4 i) (by simpa using h3) (fun j k hj hk => ?_)
                  simp only [List.length_set] at hj
                  rw [k4]
                  simp only [Array.length_toList, hcs]
                  by_cases hin : j = i ∧ o ≤ k ∧ k < o + (ρA x).cells.length
                  · rw [if_pos ((idx_other hk (by omega)).2 hin)]
                    obtain ⟨rfl, q1, q2⟩ := hin
                    have hg : (es.set j (setAt el o (ρA x).cells)).getD j [] = setAt el o (ρA x).cells := by simp [List.getD_eq_getElem?_getD, hj]
                    rw [hg, setAt_get _ _ _ w2, if_pos ⟨q1, q2⟩, show j * m.sz + k - (j * m.sz + o) = k - o by omega]
                    exact ⟨hcl.2 (k - o) (by omega), all_one w3 _ (by omega)⟩
                  · rw [if_neg (fun q => hin ((idx_other hk (by omega)).1 q))]
                    have hg : ((es.set i (setAt el o (ρA x).cells)).getD j []).getD k .no = (es.getD j []).getD k .no := by
                      by_cases e1 : i = j
                      · subst e1
                        have : (es.set i (setAt el o (ρA x).cells)).getD i [] = setAt el o (ρA x).cells := by simp [List.getD_eq_getElem?_getD, hj]
                        rw [this, setAt_get _ _ _ w2, if_neg (fun q => hin ⟨rfl, q⟩), hed]
                      · simp [List.getD_eq_getElem?_getD, List.getElem?_set_ne e1]
                    rw [hg]
                    exact h5 j k hj hk
                obtain ⟨r1, r2⟩ := hR.write hm (by rw [he]; intro q; cases q) (h8 rfl) k5 hwr
                refine ⟨w', ?_, r1, r2, Dom.refl _ _, .no⟩
                have hsz : (sizeOf t).run P w = .ok (ρ x).cells.size w := by rw [hcs]; exact run_size w1
                have hst : (storeVar t ⟨m.blk, i * m.sz + o, none⟩ (ρ x)).run P w = .ok () w' := by
                  simp [storeVar, hsz, k1]
                simp [execOp, hav, Instr.storeAt, Instr.sureAddr, hst]
              · cases hw
          · cases hv
        · cases hv
      · cases hv
    · cases hv
  | _ => simp [opS] at hv

theorem run_setObj {r : Nat} {es es' : Array MapEntry} {clock clock' : Nat} (hb : w.heap[r]? = some (.map es clock)) : (setObj r (.map es' clock')).run P w = .ok () { w with heap := w.heap.setIfInBounds r (.map es' clock') } := by
  simp [setObj, Sem.run, hb]
theorem turned_setObj {r : Nat} (o : Obj) : Turned w { w with heap := w.heap.setIfInBounds r o } r :=
  ⟨rfl, rfl, rfl, by simp, fun k hk => by simp [Array.getElem?_setIfInBounds, Ne.symm hk]⟩

/-- Keys that are equal are alike to the bit. -/
theorem sameBits_of_eq1 {a b : AV} {va vb : Value} (ha : V im w φ a va) (hb : V im w φ b vb) (h : eq1 a b = some true) (n : Nat) : Instr.sameBits n va vb = true := by
  unfold eq1 at h
  split at h
  · rw [ha.bool_inv, hb.bool_inv]; simp at h; cases n <;> simp [Instr.sameBits, h]
  · split at h
    · rename_i e
      subst e
      rw [ha.int_inv, hb.int_inv]; simp at h; cases n <;> simp [Instr.sameBits, h]
    · cases h
  · rw [ha.str_inv, hb.str_inv]; simp at h; subst h; cases n <;> simp [Instr.sameBits, beq_toListBytes]
  · cases h
theorem sameBits_of_eqL {n : Nat} : ∀ {xs ys : List AV} {vx vy : List Value}, VL im w φ xs vx → VL im w φ ys vy → eqL xs ys = some true → vx.length = vy.length ∧ (vx.zip vy).all (fun (x, y) => Instr.sameBits n x y) = true := by
  intro xs
  induction xs with
  | nil =>
    intro ys vx vy hx hy h
    cases ys with
    | nil =>
      have e1 : vx = [] := List.eq_nil_of_length_eq_zero hx.1
      have e2 : vy = [] := List.eq_nil_of_length_eq_zero hy.1
      subst e1 e2
      simp
    | cons => simp [eqL] at h
  | cons x xs ih =>
    intro ys vx vy hx hy h
    cases ys with
    | nil => simp [eqL] at h
    | cons y ys =>
      cases vx with
      | nil => have := hx.1; simp at this
      | cons u vx =>
        cases vy with
        | nil => have := hy.1; simp at this
        | cons v vy =>
          simp only [eqL] at h
          split at h
          · rename_i p q h1 h2
            simp at h
            obtain ⟨rfl, rfl⟩ := h
            obtain ⟨k1, k2⟩ := ih hx.tail hy.tail h2
            refine ⟨by simp [k1], ?_⟩
            simp only [List.zip_cons_cons, List.all_cons, sameBits_of_eq1 hx.head hy.head h1, Bool.true_and]
            exact k2
          · cases h
theorem sameBits_key {a b : AV} {va vb : Value} (ha : V im w φ a va) (hb : V im w φ b vb) (h : keyEq a b = some true) (n : Nat) : Instr.sameBits (n + 1) va vb = true := by
  unfold keyEq at h
  split at h
  · obtain ⟨xa, rfl, hxa⟩ := VL.of_agg ha
    obtain ⟨xb, rfl, hxb⟩ := VL.of_agg hb
    obtain ⟨k1, k2⟩ := sameBits_of_eqL (n := n) hxa hxb h
    simp only [Instr.sameBits, k2, Bool.and_true, beq_iff_eq]
    simpa using k1
  · exact sameBits_of_eq1 ha hb h _

theorem eq1_symm {a b : AV} (h : eq1 a b = some true) : eq1 b a = some true := by
  unfold eq1 at h
  split at h
  · simp at h; subst h; simp [eq1]
  · split at h
    · rename_i e; subst e; simp at h; subst h; simp [eq1]
    · cases h
  · simp at h; subst h; simp [eq1]
  · cases h
theorem eqL_symm : ∀ {a b : List AV}, eqL a b = some true → eqL b a = some true := by
  intro a
  induction a with
  | nil => intro b h; cases b <;> simp_all [eqL]
  | cons x a ih =>
    intro b h
    cases b with
    | nil => simp [eqL] at h
    | cons y b =>
      simp only [eqL] at h
      split at h
      · rename_i p q h1 h2
        simp at h
        obtain ⟨rfl, rfl⟩ := h
        simp [eqL, eq1_symm h1, ih h2]
      · cases h
theorem keyEq_symm {a b : AV} (h : keyEq a b = some true) : keyEq b a = some true := by
  unfold keyEq at h
  split at h
  · simpa [keyEq] using eqL_symm h
  · have := eq1_symm h
    unfold keyEq
    split
    · simp [eq1] at this
    · exact this

theorem find_at {k : AV} : ∀ (aes : List (AV × AV × Nat)) (i : Nat) (j : Nat) (v : AV), findA k aes i = some (some (j, v)) → i ≤ j ∧ ∃ k' b, aes[j - i]? = some (k', v, b) ∧ keyEq k k' = some true := by
  intro aes
  induction aes with
  | nil => intro i j v h; simp [findA] at h
  | cons e aes ih =>
    intro i j v h
    obtain ⟨k', v', b⟩ := e
    simp only [findA] at h
    split at h
    · rename_i hq
      cases h
      exact ⟨Nat.le_refl _, k', b, by simp, hq⟩
    · obtain ⟨h1, k2, b2, h2, h3⟩ := ih (i + 1) j v h
      refine ⟨by omega, k2, b2, ?_, h3⟩
      rw [show j - i = (j - (i + 1)) + 1 by omega]
      simpa using h2
    · cases h

/-- m[k] = v. -/
theorem mapUpd_sim (hR : Rel im w φ h) {t : TypeId} {m k v : AV} {vm vk vv : Value} (hm : V im w φ m vm) (hk : V im w φ k vk) (hv : V im w φ v vv) {id : Nat} {ob : AO} (hu : mapUpdA P t m k v h = some (id, ob)) (n : Nat) :
    ∃ w', (Instr.mapUpdate t vm vk vv).run P w = .ok () w' ∧ Out im w φ n n (upd h id ob) .no im w' φ undef := by
  unfold mapUpdA at hu
  split at hu
  · rename_i kt et id' hmt
    split at hu
    · rename_i hkey
      split at hu
      · rename_i es clock he
        cases hm with
        | map _ mm hmm =>
          have hO := hR.obj id' mm hmm
          rw [he] at hO
          obtain ⟨ces, hb, hE, him⟩ := hO.ents
          have u := map_under hmt
          have hc := checkKey_run hkey hk false 9998
          have hlive : h id' ≠ .dead := by rw [he]; intro q; cases q
          split at hu
          · rename_i j x hf
            cases hu
            obtain ⟨q, f1, f2⟩ := findKey_run (P := P) hkey hk hE hf
            cases q with
            | none => exact f2.elim
            | some jv =>
              obtain ⟨j', xv⟩ := jv
              obtain ⟨rfl, hxV⟩ := f2
              obtain ⟨_, k', b', g1, g2⟩ := find_at es 0 j x hf
              simp only [Nat.sub_zero] at g1
              obtain ⟨ce, c1, c2, c3, c4⟩ := hE.2 j _ g1
              have c1' : ces[j]? = some ce := by simpa using c1
              have hsame' : Instr.sameBits 10000 ce.key vk = true := sameBits_key c2 hk (keyEq_symm g2) 9999
              have ht := turned_setObj (w := w) (r := mm.blk) (.map (ces.modify j fun e => { e with key := vk, val := vv }) clock)
              have hnew : ObjOK im { w with heap := w.heap.setIfInBounds mm.blk (.map (ces.modify j fun e => { e with key := vk, val := vv }) clock) } φ mm (.map (es.modify j fun e => (k, v, e.2.2)) clock) := by
                refine ⟨ces.modify j fun e => { e with key := vk, val := vv }, ?_, by have := hE.1; simp at this ⊢; exact this, him, fun i hi e hie => ?_⟩
                · simp [Array.getElem?_setIfInBounds, hR.lt id mm hmm]
                · have hmono : ∀ {x : AV} {v : Value}, V im w φ x v → V im { w with heap := w.heap.setIfInBounds mm.blk (.map (ces.modify j fun e => { e with key := vk, val := vv }) clock) } φ x v := fun q => q.mono (Phi.le_refl _) fun b hb => ⟨hb, ht.other b (fun e => him (e ▸ hb))⟩
                  by_cases ej : j = i
                  · subst ej
                    rw [List.getElem?_modify, g1] at hie
                    simp at hie
                    subst hie
                    exact ⟨{ ce with key := vk, val := vv }, by simp [Array.getElem?_modify, c1'], hmono hk, hmono hv, c4⟩
                  · have hie : es[i]? = some e := by
                      rw [List.getElem?_modify] at hie
                      cases e1 : es[i]? with
                      | none => simp [e1] at hie
                      | some y => simp [e1, ej] at hie; rw [hie]
                    obtain ⟨ce2, d1, d2, d3, d4⟩ := hE.2 i e hie
                    exact ⟨ce2, by simp [Array.getElem?_modify, ej]; simpa using d1, hmono d2, hmono d3, d4⟩
              obtain ⟨r1, r2⟩ := hR.write hmm hlive him ht hnew
              refine ⟨_, ?_, r1, r2, Dom.refl _ _, .no⟩
              simp [Instr.mapUpdate, run_under u, run_getObj hb, hc, f1, c1', Instr.keyThatStays, hsame', run_setObj hb]
          · rename_i hf
            cases hu
            obtain ⟨q, f1, f2⟩ := findKey_run (P := P) hkey hk hE hf
            have hq : q = none := by cases q with | none => rfl | some _ => exact f2.elim
            subst hq
            have ht := turned_setObj (w := w) (r := mm.blk) (.map (ces.push { key := vk, val := vv, born := clock }) (clock + 1))
            have hnew : ObjOK im { w with heap := w.heap.setIfInBounds mm.blk (.map (ces.push { key := vk, val := vv, born := clock }) (clock + 1)) } φ mm (.map (es ++ [(k, v, clock)]) (clock + 1)) := by
              have hl : ces.size = es.length := by have := hE.1; simpa using this
              refine ⟨ces.push { key := vk, val := vv, born := clock }, ?_, by simp [hl], him, fun i hi e hie => ?_⟩
              · simp [Array.getElem?_setIfInBounds, hR.lt id mm hmm]
              · have hmono : ∀ {x : AV} {v : Value}, V im w φ x v → V im { w with heap := w.heap.setIfInBounds mm.blk (.map (ces.push { key := vk, val := vv, born := clock }) (clock + 1)) } φ x v := fun q => q.mono (Phi.le_refl _) fun b hb => ⟨hb, ht.other b (fun e => him (e ▸ hb))⟩
                by_cases ei : i < es.length
                · rw [List.getElem?_append_left ei] at hie
                  obtain ⟨ce2, d1, d2, d3, d4⟩ := hE.2 i e hie
                  refine ⟨ce2, ?_, hmono d2, hmono d3, d4⟩
                  have d1' : ces[i]? = some ce2 := by simpa using d1
                  rw [Array.getElem?_push, if_neg (by omega)]
                  exact d1'
                · have ei2 : i = es.length := by simp at hi; omega
                  subst ei2
                  simp at hie
                  subst hie
                  exact ⟨{ key := vk, val := vv, born := clock }, by rw [← hl]; simp, hmono hk, hmono hv, rfl⟩
            obtain ⟨r1, r2⟩ := hR.write hmm hlive him ht hnew
            refine ⟨_, ?_, r1, r2, Dom.refl _ _, .no⟩
            simp [Instr.mapUpdate, run_under u, run_getObj hb, hc, f1, run_setObj hb]
          · cases hu
      · cases hu
    · cases hu
  · cases hu
end
end Go.Pv
