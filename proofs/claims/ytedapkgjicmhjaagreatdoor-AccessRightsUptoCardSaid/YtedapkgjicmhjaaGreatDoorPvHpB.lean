/- A part of the proof that AccessRights returns true wherever its input is of bulk at most 1048576: what the functions that it reaches answer. No theorem of the claim stands here. -/
import Derived.Test.YtedapkgjicmhjaaGreatDoorPvHpA
set_option linter.unusedSimpArgs false
set_option linter.unusedVariables false
namespace Go.Pv
open Go Go.RowKit

/-- What an operation leaves. -/
structure Out (im : Nat → Prop) (w : World) (φ : Phi) (n n' : Nat) (h' : Hp) (v : AV) (im' : Nat → Prop) (w' : World) (φ' : Phi) (u : Value) : Prop where
  rel : Rel im' w' φ' h'
  grow : Grow im w φ im' w' φ'
  dom : Dom φ φ' n n'
  val : V im' w' φ' v u

section
variable {P : Program} {im : Nat → Prop} {w : World} {φ : Phi} {h : Hp}

theorem flat_len {α : Type} {sz : Nat} : ∀ (es : List (List α)), (∀ i, i < es.length → (es.getD i []).length = sz) → es.flatten.length = es.length * sz := by
  intro es
  induction es with
  | nil => intro _; simp
  | cons e es ih =>
    intro hl
    have h0 := hl 0 (by simp)
    simp at h0
    rw [List.flatten_cons, List.length_append, ih (fun i hi => by simpa using hl (i + 1) (by simpa using hi)), h0, List.length_cons, Nat.add_mul, Nat.one_mul, Nat.add_comm]
theorem flat_get {α : Type} {sz : Nat} (d : α) : ∀ (es : List (List α)), (∀ i, i < es.length → (es.getD i []).length = sz) → ∀ i o, i < es.length → o < sz → es.flatten.getD (i * sz + o) d = (es.getD i []).getD o d := by
  intro es
  induction es with
  | nil => intro _ i o hi; simp at hi
  | cons e es ih =>
    intro hl i o hi ho
    have h0 := hl 0 (by simp)
    simp at h0
    have hr := ih (fun i hi => by simpa using hl (i + 1) (by simpa using hi))
    cases i with
    | zero =>
      simp [List.getD_eq_getElem?_getD, List.getElem?_append_left (show o < e.length by omega)]
    | succ i =>
      have := hr i o (by simpa using hi) ho
      rw [List.flatten_cons, List.getD_eq_getElem?_getD, List.getElem?_append_right (by rw [h0, Nat.add_mul]; omega), ← List.getD_eq_getElem?_getD]
      rw [show (i + 1) * sz + o - e.length = i * sz + o by rw [h0, Nat.add_mul]; omega, this]
      simp
theorem flat_set {α : Type} {sz : Nat} (vs : List α) (hv : vs.length = sz) : ∀ (es : List (List α)), (∀ i, i < es.length → (es.getD i []).length = sz) → ∀ i, i < es.length →
    (es.set i vs).flatten = es.flatten.take (i * sz) ++ vs ++ es.flatten.drop (i * sz + vs.length) := by
  intro es
  induction es with
  | nil => intro _ i hi; simp at hi
  | cons e es ih =>
    intro hl i hi
    have h0 := hl 0 (by simp)
    simp at h0
    have hr := ih (fun i hi => by simpa using hl (i + 1) (by simpa using hi))
    cases i with
    | zero =>
      simp [hv]
      rw [List.drop_append_of_le_length (by omega), List.drop_eq_nil_of_le (by omega)]
      simp
    | succ i =>
      rw [List.set_cons_succ, List.flatten_cons, hr i (by simpa using hi), List.flatten_cons]
      have e1 : (i + 1) * sz = e.length + i * sz := by rw [h0, Nat.add_mul]; omega
      rw [e1, List.take_length_add_append, Nat.add_assoc, List.drop_length_add_append]
      simp
theorem set_lens {α : Type} {sz : Nat} {vs : List α} (hv : vs.length = sz) {es : List (List α)} (hl : ∀ i, i < es.length → (es.getD i []).length = sz) (i : Nat) : ∀ j, j < (es.set i vs).length → ((es.set i vs).getD j []).length = sz := by
  intro j hj
  simp at hj
  by_cases e : i = j
  · subst e
    simp [List.getD_eq_getElem?_getD, hj, hv]
  · have := hl j hj
    simpa [List.getD_eq_getElem?_getD, List.getElem?_set_ne e] using this

theorem alloc_get (w : World) (o : Obj) : (w.alloc o).heap[w.heap.size]? = some o := by
  show (w.heap.push o)[w.heap.size]? = some o
  simp
theorem one_len {α : Type} (e : List α) : ∀ i, i < [e].length → ([e].getD i []).length = e.length := by
  intro i hi
  have : i = 0 := by simpa using hi
  subst this
  rfl

/-- A new row. -/
theorem new_row (hR : Rel im w φ h) {n : Nat} (hn : φ n = none) (es : List (List AV)) (sz : Nat) (c : Array Value) (ty : TypeId) (hl : ∀ i, i < es.length → (es.getD i []).length = sz) (hc : es.length * sz ≤ c.size)
    (hv : ∀ i o, i < es.length → o < sz → V im w φ ((es.getD i []).getD o .no) (c.getD (i * sz + o) undef)) (ho1 : ∀ i o, i < es.length → o < sz → ((es.getD i []).getD o .no).one = true) :
    Rel im (w.alloc (.cells c ty)) (addPhi φ n ⟨w.heap.size, sz, c.size⟩) (upd h n (.row es false)) ∧ Grow im w φ im (w.alloc (.cells c ty)) (addPhi φ n ⟨w.heap.size, sz, c.size⟩) := by
  refine hR.new hn _ _ sz c.size ⟨c, ty, (0, 0), ?_, rfl, hc, hl, fun i o hi ho => ?_, fun k _ => by simp, (fun e => by cases e), fun _ e => ?_⟩
  · exact alloc_get w _
  · exact ⟨(hv i o hi ho).mono (addPhi_le hn) fun b hb => ⟨hb, Below.heap_alloc w _ b (hR.imlt b hb)⟩, ho1 i o hi ho⟩
  · have := hR.imlt _ e
    simp at this

theorem all_one {xs : List AV} (h : xs.all AV.one = true) (o : Nat) (ho : o < xs.length) : (xs.getD o .no).one = true := by
  rw [List.getD_eq_getElem?_getD, List.getElem?_eq_getElem ho]
  exact List.all_eq_true.1 h _ (List.getElem_mem ho)
theorem cells_ones {x : AV} (h : x.cells.all AV.one = true) : ∀ i o, i < [x.cells].length → o < x.cells.length → (([x.cells].getD i []).getD o .no).one = true := by
  intro i o hi ho
  have : i = 0 := by simpa using hi
  subst this
  exact all_one h o ho

theorem cells_one {x : AV} {v : Value} (hV : V im w φ x v) : ∀ i o, i < [x.cells].length → o < x.cells.length → V im w φ (([x.cells].getD i []).getD o .no) (v.cells.getD (i * x.cells.length + o) undef) := by
  intro i o hi ho
  have : i = 0 := by simpa using hi
  subst this
  have := hV.cellsL.2 o ho
  simpa [getD_toList] using this

theorem fillE_flat {sz : Nat} : ∀ (ps : List (Nat × AV)) (es out : List (List AV)), (∀ i, i < es.length → (es.getD i []).length = sz) → fillE sz es ps = some out →
    fillA (fun i => some (i * sz, sz)) es.flatten ps = some out.flatten ∧ out.length = es.length ∧ ∀ i, i < out.length → (out.getD i []).length = sz := by
  intro ps
  induction ps with
  | nil => intro es out hl h; simp [fillE] at h; subst h; exact ⟨rfl, rfl, hl⟩
  | cons p r ih =>
    intro es out hl h
    obtain ⟨i, v⟩ := p
    simp only [fillE] at h
    split at h
    · rename_i hc
      obtain ⟨h1, h2, h3⟩ := hc
      obtain ⟨k1, k2, k3⟩ := ih _ out (set_lens h1 hl i) h
      refine ⟨?_, by simpa using k2, k3⟩
      simp only [fillA]
      rw [if_pos ⟨h1, by rw [flat_len es hl]; have := Nat.mul_le_mul_right sz (show i + 1 ≤ es.length from h2); rw [Nat.add_mul] at this; omega, h3⟩]
      rw [flat_set v.cells h1 es hl i h2] at k1
      exact k1
    · cases h

theorem VL.ofFlat {es : List (List AV)} {sz : Nat} {c : Array Value} (hl : ∀ i, i < es.length → (es.getD i []).length = sz) (hV : VL im w φ es.flatten c.toList) :
    es.length * sz = c.size ∧ ∀ i o, i < es.length → o < sz → V im w φ ((es.getD i []).getD o .no) (c.getD (i * sz + o) undef) := by
  refine ⟨by have := hV.1; rw [flat_len es hl] at this; simpa using this.symm, fun i o hi ho => ?_⟩
  have := hV.2 (i * sz + o) (by rw [flat_len es hl]; exact mul_add_lt hi ho)
  rwa [flat_get _ es hl i o hi ho, getD_toList] at this

theorem zavC_one {v : Value} {x : AV} (h : zavC v = some x) : x.one = true := by
  unfold zavC at h
  split at h <;> cases h <;> rfl
theorem mapM_zavC_one : ∀ {l : List Value} {xs : List AV}, l.mapM zavC = some xs → xs.all AV.one = true := by
  intro l
  induction l with
  | nil => intro xs h; simp at h; subst h; rfl
  | cons v r ih =>
    intro xs h
    simp only [List.mapM_cons, Option.bind_eq_bind, Option.pure_def, Option.bind_eq_some_iff] at h
    obtain ⟨x, hx, ys, hy, e⟩ := h
    cases e
    simp [zavC_one hx]
    have := ih hy
    simpa using this
theorem zav_ones {v : Value} {x : AV} (h : zav v = some x) : x.cells.all AV.one = true := by
  unfold zav at h
  split at h
  · rename_i cs
    cases e : cs.toList.mapM zavC with
    | none => simp [e] at h
    | some xs => simp [e] at h; subst h; exact mapM_zavC_one e
  · have := zavC_one h
    cases x <;> simp_all [AV.cells, AV.one]
theorem fillE_ones {sz : Nat} : ∀ (ps : List (Nat × AV)) (es out : List (List AV)), (∀ e ∈ es, e.all AV.one = true) → fillE sz es ps = some out → ∀ e ∈ out, e.all AV.one = true := by
  intro ps
  induction ps with
  | nil => intro es out h1 h; simp [fillE] at h; subst h; exact h1
  | cons p r ih =>
    intro es out h1 h
    obtain ⟨i, v⟩ := p
    simp only [fillE] at h
    split at h
    · rename_i hc
      refine ih _ _ (fun e he => ?_) h
      rcases List.mem_or_eq_of_mem_set he with h2 | h2
      · exact h1 e h2
      · subst h2; exact hc.2.2
    · cases h
theorem ones_get {es : List (List AV)} {sz : Nat} (hl : ∀ i, i < es.length → (es.getD i []).length = sz) (h : ∀ e ∈ es, e.all AV.one = true) : ∀ i o, i < es.length → o < sz → ((es.getD i []).getD o .no).one = true := by
  intro i o hi ho
  refine all_one ?_ o (by rw [hl i hi]; exact ho)
  rw [List.getD_eq_getElem?_getD, List.getElem?_eq_getElem hi]
  exact h _ (List.getElem_mem hi)

/-- Zero cells, n elements of them. -/
theorem zero_cells {z : AV} {zv : Value} (hz : V im w φ z zv) {sz : Nat} (hs : z.cells.length = sz + 1) (n : Nat) :
    VL im w φ (List.replicate n z.cells).flatten ((Array.range (n * (sz + 1))).map fun k => zv.cells[k % zv.cells.size]!).toList := by
  have hl : ∀ i, i < (List.replicate n z.cells).length → ((List.replicate n z.cells).getD i []).length = sz + 1 := fun i hi => by
    simp at hi
    simp [List.getD_eq_getElem?_getD, hi, hs]
  have hcs : zv.cells.size = sz + 1 := by have := hz.cellsL.1; simp at this; omega
  refine ⟨by rw [flat_len _ hl]; simp, fun k hk => ?_⟩
  rw [flat_len _ hl] at hk
  simp only [List.length_replicate] at hk
  have hdm : k = k / (sz + 1) * (sz + 1) + k % (sz + 1) := by rw [Nat.mul_comm]; exact (Nat.div_add_mod k (sz + 1)).symm
  have hdn : k / (sz + 1) < n := Nat.div_lt_of_lt_mul (by rw [Nat.mul_comm]; exact hk)
  have hmn : k % (sz + 1) < sz + 1 := Nat.mod_lt _ (by omega)
  have e1 : (List.replicate n z.cells).flatten.getD k .no = z.cells.getD (k % (sz + 1)) .no := by
    have := flat_get AV.no _ hl (k / (sz + 1)) (k % (sz + 1)) (by simpa using hdn) hmn
    rw [← hdm] at this
    rw [this]
    simp [List.getD_eq_getElem?_getD, hdn]
  rw [e1]
  have := hz.cellsL.2 (k % (sz + 1)) (by omega)
  have e2 : ((Array.range (n * (sz + 1))).map fun k => zv.cells[k % zv.cells.size]!).toList.getD k undef = zv.cells.toList.getD (k % (sz + 1)) undef := by
    rw [hcs]
    simp [List.getD_eq_getElem?_getD, hk, hcs, hmn]
  rw [e2]
  exact this

theorem opN_sim {ρA : Operand → AV} {ρ : Operand → Value} (hρ : ∀ x, V im w φ (ρA x) (ρ x)) (hR : Rel im w φ h) (o : Oper) {n : Nat} (hn : φ n = none) {v : AV} {ob : AO} (hv : opN P ρA o.op n = some (v, ob)) :
    ∃ u w' φ', (execOp ρ o).run P w = .ok (.value u) w' ∧ Out im w φ n (n + 1) (upd h n ob) v im w' φ' u := by
  obtain ⟨dst, op, ty, pos, after, guard⟩ := o
  simp only at hv
  cases op with
  | alloc t =>
    simp only [opN] at hv
    split at hv
    · rename_i z hz
      cases hv
      obtain ⟨zv, hzr, hzz⟩ := run_zero (w := w) hz
      have hzV : V im w φ z zv := zav_V hzz
      have hzo := zav_ones hzz
      have hcs : zv.cells.size = z.cells.length := by have := hzV.cellsL.1; simpa using this
      obtain ⟨k1, k2⟩ := new_row hR hn [z.cells] z.cells.length zv.cells t (one_len _) (by simp [hcs]) (cells_one hzV) (cells_ones hzo)
      refine ⟨.pointer (some ⟨w.heap.size, 0, none⟩), _, _, ?_, k1, k2, Dom.add _, ?_⟩
      · simp [execOp, Instr.alloc, hzr, newVar, newRow]
      · have := V.ptr (im := im) (w := w.alloc (.cells zv.cells t)) n 0 0 ⟨w.heap.size, z.cells.length, zv.cells.size⟩ (addPhi_self φ n _)
        simpa using this
    · cases hv
  | box t x =>
    simp only [opN] at hv
    split at hv
    · rename_i ho
      cases hv
      have hV := hρ x
      have hcs : (ρ x).cells.size = (ρA x).cells.length := by have := hV.cellsL.1; simpa using this
      obtain ⟨k1, k2⟩ := new_row hR hn [(ρA x).cells] (ρA x).cells.length (ρ x).cells t (one_len _) (by simp [hcs]) (cells_one hV) (cells_ones ho)
      refine ⟨.pointer (some ⟨w.heap.size, 0, none⟩), _, _, ?_, k1, k2, Dom.add _, ?_⟩
      · simp [execOp, Instr.box, newVar, newRow]
      · have := V.ptr (im := im) (w := w.alloc (.cells (ρ x).cells t)) n 0 0 ⟨w.heap.size, (ρA x).cells.length, (ρ x).cells.size⟩ (addPhi_self φ n _)
        simpa using this
    · cases hv
  | buildSlice t len ps =>
    simp only [opN] at hv
    split at hv
    · rename_i e he
      split at hv
      · rename_i sz z hsz hz
        split at hv
        · rename_i hc
          obtain ⟨hzl, hlim, hones⟩ := hc
          cases ef : fillE (sz + 1) (List.replicate len z.cells) (ps.toList.map fun (p : Nat × Operand) => (p.1, ρA p.2)) with
          | none => simp [ef] at hv
          | some es =>
            simp [ef] at hv
            obtain ⟨rfl, rfl⟩ := hv
            have u := elem_under he
            obtain ⟨zv, hzr, hzz⟩ := run_zero (w := w) hz
            have hzV : V im w φ z zv := zav_V hzz
            have hl : ∀ i, i < (List.replicate len z.cells).length → ((List.replicate len z.cells).getD i []).length = sz + 1 := fun i hi => by
              simp at hi
              simp [List.getD_eq_getElem?_getD, hi, hzl]
            obtain ⟨f1, f2, f3⟩ := fillE_flat _ _ _ hl ef
            obtain ⟨r1, r2⟩ := parts_rel hρ ps
            have hz0 := zero_cells hzV hzl len
            obtain ⟨va, g1, g2, _⟩ := fill_sim (place := fun i => some (i * (sz + 1), sz + 1)) _ _ _ _ _ r1 r2 hz0 f1
            obtain ⟨c1, c2⟩ := VL.ofFlat f3 g2
            obtain ⟨k1, k2⟩ := new_row hR hn es (sz + 1) va e f3 (by omega) c2 (ones_get f3 (fillE_ones _ _ _ (fun e he => by rw [List.eq_of_mem_replicate he]; exact hones) ef))
            have hel : es.length = len := by simpa using f2
            refine ⟨.slice (some ⟨w.heap.size, 0, none⟩) len len, _, _, ?_, k1, k2, Dom.add _, ?_⟩
            · have hnl : ¬ (len * (sz + 1) > 2 ^ 24) := by omega
              have z0 : len * (sz + 1) = 0 → ((Array.range (len * (sz + 1))).map fun k => (#[] : Array Value)[k % (#[] : Array Value).size]!) = ((Array.range (len * (sz + 1))).map fun k => zv.cells[k % zv.cells.size]!) := fun e0 => by rw [e0]; simp
              simp only [execOp, Instr.buildSlice, Sem.run_bind, run_under u, Result.andThen_ok, run_size hsz, hnl, if_false]
              by_cases e0 : len * (sz + 1) = 0
              · have e0' : len * sz.succ = 0 := e0
                rw [if_pos e0']
                simp only [Sem.run_bind, Sem.run_pure, Result.andThen_ok]
                have := z0 e0
                simp only [Nat.succ_eq_add_one]
                rw [this, g1]
                simp [newRow]
              · have e0' : ¬ len * sz.succ = 0 := e0
                rw [if_neg e0']
                simp only [Sem.run_bind, hzr, Sem.run_pure, Result.andThen_ok, Nat.succ_eq_add_one]
                rw [g1]
                simp [newRow]
            · have := V.arr (im := im) (w := w.alloc (.cells va e)) n 0 len len (sz + 1) false ⟨w.heap.size, sz + 1, va.size⟩ len (addPhi_self φ n _) rfl (Nat.le_refl _) (Nat.le_refl _) (fun _ => rfl) (by show (0 + len) * (sz + 1) ≤ va.size; rw [Nat.zero_add, ← c1, hel]; exact Nat.le_refl _)
              simpa using this
        · cases hv
      · cases hv
    · cases hv
  | makeMap t r =>
    simp only [opN] at hv
    have key : v = .map n ∧ ob = .map [] 0 ∧ (execOp ρ ⟨dst, .makeMap t r, ty, pos, after, guard⟩).run P w = .ok (.value (.map (some w.heap.size))) (w.alloc (.map #[] 0)) := by
      cases r with
      | none =>
        simp at hv
        refine ⟨hv.1.symm, hv.2.symm, ?_⟩
        simp [execOp, Instr.makeMap]
      | some x =>
        simp only at hv
        split at hv
        · rename_i k i kv hk hm
          cases hv
          refine ⟨rfl, rfl, ?_⟩
          have hV := hρ x
          rw [hk] at hV
          obtain ⟨kt, et⟩ := kv
          simp [execOp, Instr.makeMap, run_under (map_under hm), hV.int_inv, asInt, asIntOf]
        · cases hv
    obtain ⟨rfl, rfl, hrun⟩ := key
    have := hR.new hn (.map #[] 0) (.map [] 0) 0 0 ⟨#[], alloc_get w _, rfl, fun e => by have := hR.imlt _ e; simp at this, fun i hi => by simp at hi⟩
    exact ⟨_, _, _, hrun, this.1, this.2, Dom.add _, .map n _ (addPhi_self φ n _)⟩
  | makeSlice t l c =>
    simp only [opN] at hv
    split at hv
    · rename_i e he
      split at hv
      · rename_i sz z by_ k1 l' k2 c' hsz hz hby hl hc
        split at hv
        · rename_i hcond
          obtain ⟨hzl, hones, h0, hlc, hcl, hbl⟩ := hcond
          cases hv
          have u := elem_under he
          obtain ⟨zv, hzr, hzz⟩ := run_zero (w := w) hz
          have hzV : V im w φ z zv := zav_V hzz
          have hlV := hρ l; rw [hl] at hlV
          have hcV := hρ c; rw [hc] at hcV
          have hz0 := zero_cells hzV hzl c'.toNat
          have hll : ∀ i, i < (List.replicate c'.toNat z.cells).length → ((List.replicate c'.toNat z.cells).getD i []).length = sz + 1 := fun i hi => by
            simp at hi
            simp [List.getD_eq_getElem?_getD, hi, hzl]
          obtain ⟨c1, c2⟩ := VL.ofFlat hll hz0
          obtain ⟨q1, q2⟩ := new_row hR hn _ (sz + 1) _ e hll (by rw [c1]; exact Nat.le_refl _) c2 (ones_get hll (fun e he => by rw [List.eq_of_mem_replicate he]; exact hones))
          have hcl : c' ≤ 2147483648 := hcl
          have hbl : by_ ≤ 1024 := hbl
          cases hi : P.info? e with
          | none => simp [tBytes, hi] at hby
          | some inf =>
            have hbb : inf.bytes = by_ := by simpa [tBytes, hi] using hby
            have wl : IntKind.i64.wrap l' = l' := by simp [IntKind.wrap, IntKind.bits, IntKind.signed]; omega
            have wc : IntKind.i64.wrap c' = c' := by simp [IntKind.wrap, IntKind.bits, IntKind.signed]; omega
            have hb1 : (inf.bytes : Int) * c' ≤ 2 ^ 48 := by
              have : (inf.bytes : Int) * c' ≤ 1024 * 2147483648 := Int.mul_le_mul (by omega) hcl (by omega) (by omega)
              omega
            refine ⟨.slice (some ⟨w.heap.size, 0, none⟩) l'.toNat c'.toNat, _, _, ?_, q1, q2, Dom.add _, ?_⟩
            · have t1 : ¬ (c' < 0 ∨ (inf.bytes : Int) * c' > 2 ^ 48) := by omega
              have t2 : ¬ (l' < 0) := by omega
              have t3 : ¬ (l' > c') := by omega
              have z0 : c'.toNat * (sz + 1) = 0 → ((Array.range (c'.toNat * (sz + 1))).map fun k => (#[] : Array Value)[k % (#[] : Array Value).size]!) = ((Array.range (c'.toNat * (sz + 1))).map fun k => zv.cells[k % zv.cells.size]!) := fun e0 => by rw [e0]; simp
              have t4 : (decide (c' < 0) || decide ((inf.bytes : Int) * c' > 2 ^ 48)) = false := by simp; omega
              simp only [execOp, Instr.makeSlice, Sem.run_bind, run_under u, Result.andThen_ok, hlV.int_inv, hcV.int_inv, asInt, asIntOf, Sem.run_pure, run_info hi, wl, wc]
              simp only [t4, t2, t3, Bool.false_eq_true, false_or, or_self, decide_false, Bool.or_self, if_false, run_askRoom, Sem.run_bind, Result.andThen_ok, run_size hsz]
              by_cases e0 : c'.toNat * (sz + 1) = 0
              · have e0' : c'.toNat * sz.succ = 0 := e0
                rw [if_pos e0']
                simp only [Sem.run_bind, Sem.run_pure, Result.andThen_ok, Nat.succ_eq_add_one]
                rw [z0 e0]
                simp [newRow]
              · have e0' : ¬ c'.toNat * sz.succ = 0 := e0
                rw [if_neg e0']
                simp only [Sem.run_bind, hzr, Sem.run_pure, Result.andThen_ok, Nat.succ_eq_add_one]
                simp [newRow]
            · have := V.arr (im := im) (w := w.alloc (.cells ((Array.range (c'.toNat * (sz + 1))).map fun k => zv.cells[k % zv.cells.size]!) e)) n 0 l'.toNat c'.toNat (sz + 1) false ⟨w.heap.size, sz + 1, ((Array.range (c'.toNat * (sz + 1))).map fun k => zv.cells[k % zv.cells.size]!).size⟩ c'.toNat (addPhi_self φ n _) rfl (by omega) (Nat.le_refl _) (fun _ => rfl) (by simp)
              simpa using this
        · cases hv
      · cases hv
    · cases hv
  | _ => simp [opN] at hv
end
end Go.Pv
