/- A part of the proof that AccessRights returns true wherever its input is of bulk at most 1048576: what the functions that it reaches answer. No theorem of the claim stands here. -/
import Derived.Test.YtedapkgjicmhjaaGreatDoorPvImp
import Derived.Laws.IdiomRangeMap
namespace Go.Pv
open Go Go.RowKit
set_option linter.unusedSimpArgs false
set_option linter.unusedVariables false
section
variable {P : Program} {im : Nat → Prop} {w : World} {φ : Phi} {h : Hp}

/-- A range begins. -/
theorem range_sim (hR : Rel im w φ h) {n : Nat} (hn : φ n = none) {t kt et : TypeId} (ht : P.underlying t = some (.map kt et)) {id : Nat} {es : List (AV × AV × Nat)} {clock : Nat} (hid : h id = .map es clock) {vm : Value} (hm : V im w φ (.map id) vm) :
    ∃ u w' φ', (Instr.range t vm).run P w = .ok u w' ∧ Out im w φ n (n + 1) (upd h n (.iter (some id) clock [] clock)) (.iter n) im w' φ' u := by
  cases hm with
  | map _ m hφ =>
    have hO := hR.obj id m hφ
    rw [hid] at hO
    obtain ⟨ces, h1, h2, h3, h4⟩ := hO
    have hblk : ¬ im w.heap.size := fun q => by have := hR.imlt _ q; omega
    obtain ⟨k1, k2⟩ := hR.new hn (.mapIter (some m.blk) clock #[] clock) (.iter (some id) clock [] clock) 1 1
      ⟨some m.blk, alloc_get _ _, hblk, m, addPhi_le hn _ _ hφ, rfl⟩
    exact ⟨_, _, _, run_range_map w t kt et m.blk ces clock ht h1, k1, k2, Dom.add _, .iter n _ (addPhi_self φ n _)⟩

theorem rel_heap {w' : World} (hR : Rel im w φ h) (hh : w'.heap = w.heap) : Rel im w' φ h where
  imlt := fun b hb => by rw [hh]; exact hR.imlt b hb
  lt := fun id m hm => by rw [hh]; exact hR.lt id m hm
  obj := fun id m hm => (hR.obj id m hm).mono (Phi.le_refl _) (fun b hb => ⟨hb, by rw [hh]⟩) (by rw [hh]) (fun q => q)
  inj := hR.inj

/-- A range's next: nothing is left, or any entry that has not come. -/
theorem next_sim (hR : Rel im w φ h) (n : Nat) {id m : Nat} {since : Nat} {seen : List Nat} (hid : h id = .iter (some m) since seen since) {es : List (AV × AV × Nat)} (hm : h m = .map es since) (hold : ∀ e ∈ es, e.2.2 < since)
    {vi : Value} (hi : V im w φ (.iter id) vi) (ty : TypeId) :
    ∃ u w', (Instr.next vi false ty).run P w = .ok u w' ∧
      (((∀ e ∈ es, e.2.2 ∈ seen) ∧ Out im w φ n n h (.tup [.bool false]) im w' φ u) ∨
       ∃ e ∈ es, e.2.2 ∉ seen ∧ Out im w φ n n (upd h id (.iter (some m) since (seen ++ [e.2.2]) since)) (.tup [.bool true, e.1, e.2.1]) im w' φ u) := by
  cases hi with
  | iter _ mi hφ =>
    have hO := hR.obj id mi hφ
    rw [hid] at hO
    obtain ⟨r, h1, h2, mm, h3, rfl⟩ := hO
    have hOm := hR.obj m mm h3
    rw [hm] at hOm
    obtain ⟨ces, g1, g2, g3, g4⟩ := hOm
    have hold' : ∀ x ∈ ces.toList, x.born < since := fun x hx => by
      obtain ⟨i, hi, rfl⟩ := List.getElem_of_mem hx
      have hi' : i < es.length := by rw [← g2]; simpa using hi
      obtain ⟨ce, k1, k2, k3, k4⟩ := g4 i hi' es[i] (List.getElem?_eq_getElem hi')
      have : ces.toList[i] = ce := by
        have : ces.toList[i]? = some ce := by simpa using k1
        simpa [List.getElem?_eq_getElem hi] using this
      rw [this, k4]
      exact hold _ (List.getElem_mem hi')
    simp only [Instr.next, getObj, Sem.run_bind, Sem.run, h1, g1, Result.andThen, next_test_false seen.toArray ces since since hold' (Nat.le_refl _), Bool.false_eq_true, if_false]
    have hmem : ∀ x ∈ (Array.filter (fun e => !seen.toArray.contains e.born) ces).toList, x.born < since := fun x hx => hold' x (by simp at hx ⊢; exact hx.1)
    have hin : ∀ x, x ∈ (Array.filter (fun e => !seen.toArray.contains e.born) ces) ↔ x ∈ ces ∧ x.born ∉ seen := fun x => by simp
    generalize Array.filter (fun e => !seen.toArray.contains e.born) ces = L at hmem hin ⊢
    have e1 : L.filter (fun x => decide (x.born < since)) = L := Array.filter_eq_self.2 (fun x hx => by simpa using hmem x (by simpa using hx))
    have e2 : L.filter (fun x => decide (x.born ≥ since)) = #[] := by
      rw [Array.filter_eq_empty_iff]
      intro x hx
      have := hmem x (by simpa using hx)
      simp
      omega
    simp only [e1, e2, Array.append_empty]
    by_cases h0 : L.size = 0
    · have : L = #[] := Array.eq_empty_of_size_eq_zero h0
      subst this
      refine ⟨.tuple #[.bool false], w, ?_, .inl ⟨fun e he => ?_, .refl hR ?_⟩⟩
      · simp [choose, Sem.run, Question.forced]
      · obtain ⟨i, hi, rfl⟩ := List.getElem_of_mem he
        obtain ⟨ce, k1, k2, k3, k4⟩ := g4 i hi es[i] (List.getElem?_eq_getElem hi)
        rw [← k4]
        refine Classical.byContradiction fun q => ?_
        have := (hin ce).2 ⟨Array.mem_of_getElem? k1, q⟩
        simp at this
      · exact V.of_listT (.cons (.bool false) VL.nil)
    · have hne : L.isEmpty = false := by simp [Array.isEmpty, h0]
      simp only [hne, Bool.false_eq_true, if_false, Array.empty_append, Array.size_map]
      have hch : ∃ (j : Nat) (w1 : World), j < L.size ∧ w1.heap = w.heap ∧ w1.os = w.os ∧ w1.tape = w.tape ∧ w1.output = w.output ∧ (choose (Question.mapNext L.size)).run P w = .ok j w1 := by
        by_cases hf : L.size ≤ 1
        · exact ⟨0, w, by omega, rfl, rfl, rfl, rfl, by simp [choose, Sem.run, Question.forced, hf]⟩
        · exact ⟨_, w.drew, Nat.mod_lt _ (by omega), rfl, rfl, rfl, rfl, by
            simp only [choose, Sem.run, Question.forced, decide_eq_true_eq, hf, if_false, Question.cut]
            rfl⟩
      obtain ⟨j, w1, hj, q1, q2, q3, q4, hrun⟩ := hch
      have hLj := (hin L[j]).1 (Array.getElem_mem hj)
      obtain ⟨i, hi, hie⟩ := Array.getElem_of_mem hLj.1
      have hi' : i < es.length := by omega
      obtain ⟨ce, k1, k2, k3, k4⟩ := g4 i hi' es[i] (List.getElem?_eq_getElem hi')
      have hce : ce = L[j] := by
        rw [Array.getElem?_eq_getElem hi] at k1
        rw [← hie]; exact (Option.some.inj k1).symm
      subst hce
      have hR1 : Rel im w1 φ h := rel_heap hR q1
      have h1' : w1.heap[mi.blk]? = some (.mapIter (some mm.blk) since seen.toArray since) := by rw [q1]; exact h1
      have hT : Turned w1 { w1 with heap := w1.heap.setIfInBounds mi.blk (.mapIter (some mm.blk) since (seen.toArray.push L[j].born) since) } mi.blk := turned_setObj _
      have hlt : mi.blk < w1.heap.size := (Array.getElem?_eq_some_iff.1 h1').1
      obtain ⟨t1, t2⟩ := hR1.write hφ (by rw [hid]; intro q; cases q) h2 hT (ob := .iter (some m) since (seen ++ [es[i].2.2]) since)
        ⟨some mm.blk, by simp [hlt, k4], h2, mm, h3, rfl⟩
      have hg : Grow im w φ im w1 φ := ⟨q2, q3, q4, by rw [q1]; exact Nat.le_refl _, Phi.le_refl _, fun _ hb => hb, fun _ _ => by rw [q1], fun _ _ _ => by rw [q1], fun id m hm => .inr ⟨id, m, hm, rfl⟩, fun b hb => .inl hb⟩
      have hgg := hg.trans t2
      refine ⟨.tuple #[.bool true, L[j].key, L[j].val], _, ?_, .inr ⟨es[i], List.getElem_mem hi', by rw [← k4]; exact hLj.2, t1, hgg, Dom.refl _ _, ?_⟩⟩
      · simp only [hrun, Array.getElem?_map, Array.getElem?_eq_getElem hj, Option.map_some, Sem.run_bind, setObj, Sem.run, Result.andThen, h1']
        rfl
      · exact V.of_listT (.cons (.bool true) (.cons (hgg.V k2) (.cons (hgg.V k3) VL.nil)))

/-- The entry at which a range stands. -/
theorem entry_sim (hR : Rel im w φ h) (n : Nat) {id m : Nat} {since : Nat} {seen : List Nat} {e : AV × AV × Nat} (hid : h id = .iter (some m) since (seen ++ [e.2.2]) since) {es : List (AV × AV × Nat)} (hm : h m = .map es since) (he : e ∈ es) (hnd : (es.map (·.2.2)).Nodup)
    {vi : Value} (hi : V im w φ (.iter id) vi) :
    ∃ u, (Instr.entry vi).run P w = .ok u w ∧ V im w φ (.tup [e.1, e.2.1]) u := by
  cases hi with
  | iter _ mi hφ =>
    have hO := hR.obj id mi hφ
    rw [hid] at hO
    obtain ⟨r, h1, h2, mm, h3, rfl⟩ := hO
    have hOm := hR.obj m mm h3
    rw [hm] at hOm
    obtain ⟨ces, g1, g2, g3, g4⟩ := hOm
    obtain ⟨i, hi, rfl⟩ := List.getElem_of_mem he
    obtain ⟨ce, k1, k2, k3, k4⟩ := g4 i hi es[i] (List.getElem?_eq_getElem hi)
    have hborn : ces.toList.map (·.born) = es.map (·.2.2) := by
      apply List.ext_getElem?
      intro j
      by_cases hj : j < es.length
      · obtain ⟨ce', p1, p2, p3, p4⟩ := g4 j hj es[j] (List.getElem?_eq_getElem hj)
        simp [p1, p4, hj]
      · have hj' : ces.size ≤ j := by omega
        simp [List.getElem?_eq_none (show es.length ≤ j by omega), Array.getElem?_eq_none hj']
    have hf : ces.find? (·.born == ce.born) = some ce := by
      rw [← Array.find?_toList]
      exact find_born ce ces.toList (by rw [hborn]; exact hnd) (by simpa using Array.mem_of_getElem? k1)
    have h1' : w.heap[mi.blk]? = some (.mapIter (some mm.blk) since (seen.toArray.push es[i].2.2) since) := by simpa using h1
    refine ⟨.tuple #[ce.key, ce.val], ?_, V.of_listT (.cons k2 (.cons k3 VL.nil))⟩
    simp only [Instr.entry, getObj, Sem.run_bind, Sem.run, h1', g1, Result.andThen, Array.back?_push, bne_self_eq_false, Bool.false_eq_true, if_false, ← k4, hf]
    rfl
end
end Go.Pv
