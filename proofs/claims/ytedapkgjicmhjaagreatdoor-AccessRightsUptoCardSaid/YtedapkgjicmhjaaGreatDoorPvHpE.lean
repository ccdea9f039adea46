/- A part of the proof that AccessRights returns true wherever its input is of bulk at most 1048576: what the functions that it reaches answer. No theorem of the claim stands here. -/
import Derived.Test.YtedapkgjicmhjaaGreatDoorPvHpD
set_option linter.unusedSimpArgs false
set_option linter.unusedVariables false
namespace Go.Pv
open Go Go.RowKit

section
variable {P : Program} {im : Nat → Prop} {w : World} {φ : Phi} {h : Hp}

theorem run_append_place {st xt e : TypeId} {xd : TypeDesc} {sz : Nat} {ats : Array TypeId} {ty : TypeId} {args : Array Value} {vx : Value} {base : Option Addr} {sLen sCap n : Nat} {an : Array Value} {w' : World}
    (h1 : ats[0]? = some st) (h2 : ats[1]? = some xt) (a1 : args[0]? = some (.slice base sLen sCap)) (a2 : args[1]? = some vx) (he : P.underlying st = some (.slice e)) (hx : P.underlying xt = some xd) (hxi : notInt xd = true)
    (hs : tSize P e = some sz) (hn : (Builtin.lenOf vx).run P w = .ok n w) (hcap : sLen + n ≤ sCap) (hnw : (Builtin.firstCells sz n vx).run P w = .ok an w)
    (hst : match base with | some a => (storeCells (a.add (sLen * sz)) an.toList).run P w = .ok () w' | none => w' = w) :
    (Builtin.append_ ats ty args).run P w = .ok (.slice base (sLen + n) sCap) w' := by
  unfold Builtin.append_
  simp only [h1, a1, a2, h2, Sem.run_bind, run_under he, Result.andThen_ok, run_size hs, run_under hx, Sem.run_pure, Sem.run_ite]
  split
  · simp [notInt] at hxi
  · rename_i hc
    simp only [hc, Bool.false_eq_true, if_false, hn, Result.andThen_ok, hcap, if_true, hnw, Bool.not_false, Sem.run_bind, Sem.run_pure, Sem.run_ite]
    cases base with
    | none => simp at hst; subst hst; simp
    | some a => simp only at hst; simp [hst]

theorem Rel.kill (hR : Rel im w φ h) (id : Nat) : Rel im w φ (upd h id .dead) where
  imlt := hR.imlt
  lt := hR.lt
  obj := fun i m hm => by
    unfold upd
    split
    · trivial
    · exact hR.obj i m hm
  inj := fun i i' m m' h1 h2 e => by
    unfold upd
    rcases hR.inj i i' m m' h1 h2 e with k | k | k
    · exact .inl k
    · right; left; split <;> first | rfl | exact k
    · right; right; split <;> first | rfl | exact k

theorem drew_below (w : World) : Below w.heap.size w w.drew := ⟨rfl, rfl, rfl, Nat.le_refl _, fun _ _ => rfl⟩

/-- A new row behind a draw. -/
theorem new_row_drew (hR : Rel im w φ h) {n : Nat} (hn : φ n = none) (es : List (List AV)) (sz : Nat) (c : Array Value) (ty : TypeId) (hl : ∀ i, i < es.length → (es.getD i []).length = sz) (hc : es.length * sz ≤ c.size)
    (hv : ∀ i o, i < es.length → o < sz → V im w φ ((es.getD i []).getD o .no) (c.getD (i * sz + o) undef)) (ho1 : ∀ i o, i < es.length → o < sz → ((es.getD i []).getD o .no).one = true) :
    Rel im (w.drew.alloc (.cells c ty)) (addPhi φ n ⟨w.heap.size, sz, c.size⟩) (upd h n (.row es false)) ∧ Grow im w φ im (w.drew.alloc (.cells c ty)) (addPhi φ n ⟨w.heap.size, sz, c.size⟩) := by
  have h1 := hR.below (drew_below w)
  obtain ⟨k1, k2⟩ := new_row h1 hn es sz c ty hl hc (fun i o hi ho => (hv i o hi ho).mono (Phi.le_refl _) fun b hb => ⟨hb, rfl⟩) ho1
  exact ⟨k1, (hR.grow_below (drew_below w)).trans k2⟩

theorem append_lens {es new : List (List AV)} {sz : Nat} (h1 : ∀ i, i < es.length → (es.getD i []).length = sz) (h2 : ∀ i, i < new.length → (new.getD i []).length = sz) : ∀ i, i < (es ++ new).length → ((es ++ new).getD i []).length = sz := by
  intro i hi
  by_cases e : i < es.length
  · have := h1 i e
    simpa [List.getD_eq_getElem?_getD, List.getElem?_append_left e] using this
  · have := h2 (i - es.length) (by simp at hi; omega)
    simpa [List.getD_eq_getElem?_getD, List.getElem?_append_right (show es.length ≤ i by omega)] using this
theorem append_ones {es new : List (List AV)} {sz : Nat} (h1 : ∀ i o, i < es.length → o < sz → ((es.getD i []).getD o .no).one = true) (h2 : ∀ i o, i < new.length → o < sz → ((new.getD i []).getD o .no).one = true) :
    ∀ i o, i < (es ++ new).length → o < sz → (((es ++ new).getD i []).getD o .no).one = true := by
  intro i o hi ho
  by_cases e : i < es.length
  · have := h1 i o e ho
    simpa [List.getD_eq_getElem?_getD, List.getElem?_append_left e] using this
  · have := h2 (i - es.length) o (by simp at hi; omega) ho
    simpa [List.getD_eq_getElem?_getD, List.getElem?_append_right (show es.length ≤ i by omega)] using this
/-- Old cells, new cells, and more behind them. -/
theorem append_vals {es new : List (List AV)} {sz : Nat} {ao an rest : Array Value} (h1 : ∀ i, i < es.length → (es.getD i []).length = sz) (h2 : ∀ i, i < new.length → (new.getD i []).length = sz) (v1 : VL im w φ es.flatten ao.toList) (v2 : VL im w φ new.flatten an.toList) :
    (es ++ new).length * sz ≤ (ao ++ an ++ rest).size ∧ ∀ i o, i < (es ++ new).length → o < sz → V im w φ (((es ++ new).getD i []).getD o .no) ((ao ++ an ++ rest).getD (i * sz + o) undef) := by
  have hfl : (es ++ new).flatten = es.flatten ++ new.flatten := by simp
  have hl := append_lens h1 h2
  have hv := v1.append v2
  rw [← hfl] at hv
  have hs : (es ++ new).length * sz = ao.size + an.size := by
    have := hv.1
    rw [flat_len _ hl] at this
    simp at this
    simp
    omega
  refine ⟨by simp at hs ⊢; omega, fun i o hi ho => ?_⟩
  have hk := mul_add_lt hi ho
  have := hv.2 (i * sz + o) (by rw [flat_len _ hl]; exact hk)
  rw [flat_get AV.no _ hl i o hi ho] at this
  rw [← getD_toList]
  have e : (ao ++ an ++ rest).toList.getD (i * sz + o) undef = (ao.toList ++ an.toList).getD (i * sz + o) undef := by
    simp only [Array.toList_append, List.getD_eq_getElem?_getD]
    rw [List.getElem?_append_left (by simp; omega)]
  rw [e]
  exact this

/-- The slice has grown. -/
theorem grow_out (hR : Rel im w φ h) {n : Nat} (hn : φ n = none) {st xt e : TypeId} {xd : TypeDesc} {sz : Nat} {z : AV} {inf : TypeInfo} {ats : Array TypeId} {ty : TypeId} {args : Array Value} {vx : Value} {base : Option Addr} {sCap : Nat} {old new : List (List AV)} {ao an : Array Value}
    (h1 : ats[0]? = some st) (h2 : ats[1]? = some xt) (a1 : args[0]? = some (.slice base old.length sCap)) (a2 : args[1]? = some vx) (he : P.underlying st = some (.slice e)) (hx : P.underlying xt = some xd) (hxi : notInt xd = true)
    (hs : tSize P e = some (sz + 1)) (hz : tZero P e = some z) (hzl : z.cells.length = sz + 1) (hi : P.info? e = some inf) (hb : inf.bytes ≤ 1024) (hl : (Builtin.lenOf vx).run P w = .ok new.length w) (hlim : old.length + new.length ≤ 2147483648) (hcap : sCap < old.length + new.length)
    (ho : (Builtin.firstCells (sz + 1) old.length (.slice base old.length sCap)).run P w.drew = .ok ao w.drew) (hnw : (Builtin.firstCells (sz + 1) new.length vx).run P w.drew = .ok an w.drew)
    (o1 : ∀ i, i < old.length → (old.getD i []).length = sz + 1) (o2 : ∀ i o, i < old.length → o < sz + 1 → ((old.getD i []).getD o .no).one = true) (o3 : VL im w.drew φ old.flatten ao.toList)
    (p1 : ∀ i, i < new.length → (new.getD i []).length = sz + 1) (p2 : ∀ i o, i < new.length → o < sz + 1 → ((new.getD i []).getD o .no).one = true) (p3 : VL im w.drew φ new.flatten an.toList) :
    ∃ u w' φ', (Builtin.append_ ats ty args).run P w = .ok u w' ∧ Out im w φ n (n + 1) (upd h n (.row (old ++ new) false)) (.arr n 0 (old.length + new.length) (old.length + new.length) (sz + 1) true) im w' φ' u := by
  obtain ⟨zv, hzr, hzz⟩ := run_zero (w := w.drew) hz
  have hzV : V im w φ z zv := zav_V hzz
  have hcs : zv.cells.size = sz + 1 := by have := hzV.cellsL.1; simp at this; omega
  obtain ⟨cap', hc1, hc2⟩ := run_append_grow (P := P) (ty := ty) (sz := sz + 1) (zv := zv) (inf := inf) (ao := ao) (an := an) h1 h2 a1 a2 he hx hxi hs hzr hi hb hl hlim hcap ho hnw
  obtain ⟨q1, q2⟩ := append_vals (rest := Builtin.zeroCells zv.cells (cap' - (old.length + new.length))) o1 p1 o3 p3
  obtain ⟨k1, k2⟩ := new_row_drew hR hn (old ++ new) (sz + 1) _ e (append_lens o1 p1) q1 (fun i o hi ho => (q2 i o hi ho).mono (Phi.le_refl _) fun b hb => ⟨hb, rfl⟩) (append_ones o2 p2)
  refine ⟨_, _, _, hc2, k1, k2, Dom.add _, ?_⟩
  have hsz : (ao ++ an ++ Builtin.zeroCells zv.cells (cap' - (old.length + new.length))).size = cap' * (sz + 1) := by
    have e1 := o3.1; have e2 := p3.1
    rw [flat_len _ o1] at e1
    rw [flat_len _ p1] at e2
    simp only [Array.length_toList] at e1 e2
    simp only [Array.size_append, e1, e2, Builtin.zeroCells, Array.size_map, Array.size_range, hcs]
    rw [← Nat.add_mul, ← Nat.add_mul]
    congr 1
    omega
  have := V.arr (im := im) (w := w.drew.alloc (.cells (ao ++ an ++ Builtin.zeroCells zv.cells (cap' - (old.length + new.length))) e)) n 0 (old.length + new.length) (old.length + new.length) (sz + 1) true
    ⟨w.heap.size, sz + 1, (ao ++ an ++ Builtin.zeroCells zv.cells (cap' - (old.length + new.length))).size⟩ cap' (addPhi_self φ n _) rfl (Nat.le_refl _) hc1 (fun e => by cases e) (by rw [Nat.zero_add]; exact Nat.le_of_eq hsz.symm)
  simpa using this

theorem append_n {st xt : TypeId} {s x v : AV} {n n' : Nat} {ws : List (Nat × AO)} (ha : appendA P st xt s x n h = some (v, ws, n')) : n ≤ n' := by
  unfold appendA at ha
  repeat' split at ha
  all_goals first | (cases ha; done) | (cases ha; omega)
theorem Out.kill {n n' : Nat} {h' : Hp} {v : AV} {im' : Nat → Prop} {w' : World} {φ' : Phi} {u : Value} (o : Out im w φ n n' h' v im' w' φ' u) (id : Nat) : Out im w φ n n' (upd h' id .dead) v im' w' φ' u := ⟨o.rel.kill id, o.grow, o.dom, o.val⟩

theorem append_sim (hR : Rel im w φ h) {n n' : Nat} (hnn : ∀ id, n ≤ id → id < n' → φ id = none) {st xt : TypeId} {s x v : AV} {ws : List (Nat × AO)} (ha : appendA P st xt s x n h = some (v, ws, n')) {vs vx : Value} (hs : V im w φ s vs) (hx : V im w φ x vx)
    {ats : Array TypeId} {ty : TypeId} {args : Array Value} (h1 : ats[0]? = some st) (h2 : ats[1]? = some xt) (a1 : args[0]? = some vs) (a2 : args[1]? = some vx) :
    ∃ u w' φ', (Builtin.append_ ats ty args).run P w = .ok u w' ∧ Out im w φ n n' (updW h ws) v im w' φ' u := by
  unfold appendA at ha
  split at ha
  · rename_i e xd he hxd
    have hu := elem_under he
    split at ha
    · rename_i sz z by_ hsz hz hby
      split at ha
      · rename_i hcnd
        obtain ⟨hzl, hzo, hbl, hxi⟩ := hcnd
        replace hbl : by_ ≤ 1024 := hbl
        cases hi : P.info? e with
        | none => simp [tBytes, hi] at hby
        | some inf =>
          have hbb : inf.bytes = by_ := by simpa [tBytes, hi] using hby
          split at ha
          · -- nothing is appended
            rename_i hel
            obtain ⟨l1, l2, l3, an, l4, l5⟩ := els_cells (P := P) hR hx hel
            have hnil : an.toList = [] := by have := l5.1; simpa using this
            have key : ∀ base sLen sCap, vs = .slice base sLen sCap → sLen ≤ sCap → (Builtin.append_ ats ty args).run P w = .ok vs w := fun base sLen sCap e1 hle => by
              subst e1
              refine (run_append_place (P := P) (w' := w) (n := 0) h1 h2 a1 a2 hu hxd hxi hsz l1 (by omega) l4 ?_).trans (by simp)
              cases base with
              | none => rfl
              | some a => simp [hnil, storeCells]
            have hsv : ∃ base sLen sCap, vs = .slice base sLen sCap ∧ sLen ≤ sCap ∧ v = s ∧ ws = [] ∧ n' = n := by
              split at ha
              · cases ha; cases hs; exact ⟨_, _, _, rfl, Nat.le_refl _, rfl, rfl, rfl⟩
              · cases ha; cases hs; exact ⟨_, _, _, rfl, by assumption, rfl, rfl, rfl⟩
              · cases ha; cases hs; exact ⟨_, _, _, rfl, by omega, rfl, rfl, rfl⟩
              · cases ha
            obtain ⟨base, sLen, sCap, e1, e2, rfl, rfl, rfl⟩ := hsv
            exact ⟨vs, w, φ, key _ _ _ e1 e2, hR, Grow.refl _ _ _, Dom.refl _ _, hs⟩
          · rename_i new hne hel
            obtain ⟨l1, l2, l3, an, l4, l5⟩ := els_cells (P := P) hR hx hel
            have hdr : ∀ {x : AV} {v : Value}, V im w φ x v → V im w.drew φ x v := fun q => q.mono (Phi.le_refl _) fun b hb => ⟨hb, rfl⟩
            have hRd := hR.below (drew_below w)
            obtain ⟨_, _, _, and, l4d, l5d⟩ := els_cells (P := P) hRd (hdr hx) hel
            have hpos : 0 < new.length := by
              cases new with
              | nil => exact absurd rfl hne
              | cons => simp
            split at ha
            · rename_i hlim
              replace hlim : lenA s + new.length ≤ 2147483648 := hlim
              split at ha
              · -- nil
                cases ha
                cases hs
                have hn : φ n = none := hnn n (Nat.le_refl _) (Nat.lt_succ_self _)
                have := grow_out (P := P) (ty := ty) hR hn (old := []) (ao := #[]) (an := and) h1 h2 a1 a2 hu hxd hxi hsz hz hzl hi (by omega) l1 (by simpa [lenA] using hlim) (by simpa using hpos) rfl l4d (fun i hi => by simp at hi) (fun i o hi => by simp at hi) VL.nil l2 l3 l5d
                simpa [updW] using this
              · -- a full slice that nobody changes
                rename_i sz' es
                split at ha
                · rename_i e1
                  subst e1
                  cases ha
                  obtain ⟨_, o1, o2, ao, o3, o4⟩ := els_cells (P := P) hRd (hdr hs) (sz := sz) (es := es) (by simp [elsOf])
                  cases hs with
                  | lst _ _ _ a cap vs' k1 k2 k3 k4 k4o k5 k6 =>
                    have hcap := k6 rfl
                    subst hcap
                    exact grow_out (P := P) (ty := ty) hR (hnn n (Nat.le_refl _) (Nat.lt_succ_self _)) (ao := ao) (an := and) h1 h2 a1 a2 hu hxd hxi hsz hz hzl hi (by omega) l1 (by simpa [lenA] using hlim) (by omega) o3 l4d o1 o2 o4 l2 l3 l5d
                · cases ha
              · -- an array of the call's own
                rename_i id off len cap sz' loose
                split at ha
                · rename_i es fr hid
                  split at ha
                  · rename_i hc
                    obtain ⟨e1, hle⟩ := hc
                    subst e1
                    have hels : elsOf h (sz + 1) (.arr id off len cap (sz + 1) loose) = some ((es.drop off).take len) := by simp [elsOf, hid, hle]
                    obtain ⟨_, o1, o2, ao, o3, o4⟩ := els_cells (P := P) hRd (hdr hs) hels
                    have hol : ((es.drop off).take len).length = len := by simp; omega
                    cases hs with
                    | arr _ _ _ _ _ _ mm c k0 k1 k2 k3 k4 k5 =>
                      have hO := hR.obj id mm k0
                      rw [hid] at hO
                      have hlimc : len + new.length ≤ 2147483648 := by simpa [lenA] using hlim
                      have hgrow : φ n = none → c < len + new.length → ∃ u w' φ', (Builtin.append_ ats ty args).run P w = .ok u w' ∧
                          Out im w φ n (n + 1) (upd h n (.row ((es.drop off).take len ++ new) false)) (.arr n 0 (len + new.length) (len + new.length) (sz + 1) true) im w' φ' u := fun hn hlt => by
                        have := grow_out (P := P) (ty := ty) hR hn (old := (es.drop off).take len) (ao := ao) (an := and) h1 h2 (by rw [hol]; exact a1) a2 hu hxd hxi hsz hz hzl hi (by omega) l1 (by omega) (by omega) (by rw [hol] at o3 ⊢; exact o3) l4d o1 o2 o4 l2 l3 l5d
                        rwa [hol] at this
                      -- in place
                      have hplace : ∀ (es' : List (List AV)), fr = false → len + new.length ≤ c → es'.length * (sz + 1) ≤ mm.cells → (∀ i, i < es'.length → (es'.getD i []).length = sz + 1) →
                          (∀ j, j < es'.length → (off + len ≤ j ∧ j < off + len + new.length ∧ es'.getD j [] = new.getD (j - (off + len)) []) ∨ (¬ (off + len ≤ j ∧ j < off + len + new.length) ∧ j < es.length ∧ es'.getD j [] = es.getD j [])) →
                          ∃ w', (Builtin.append_ ats ty args).run P w = .ok (.slice (some ⟨mm.blk, off * (sz + 1), none⟩) (len + new.length) c) w' ∧ Turned w w' mm.blk ∧ ¬ im mm.blk ∧ ObjOK im w' φ mm (.row es' false) := by
                        intro es' hfr hcle hlen' hlens' hsel
                        subst hfr
                        have hO2 := hO
                        obtain ⟨c0, cty, frz, b1, b2, b3, b4, b5, b6, b7, b8⟩ := hO
                        rw [k1] at b3 b4 b5
                        have hcl : (off * (sz + 1) + len * (sz + 1)) + an.toList.length ≤ c0.size := by
                          have e1 := l5.1
                          rw [flat_len _ l2] at e1
                          rw [e1, ← Nat.add_mul, ← Nat.add_mul, b2]
                          refine Nat.le_trans (Nat.mul_le_mul_right _ ?_) k5
                          omega
                        have hones : (new.flatten).all AV.one = true := by
                          refine List.all_eq_true.2 fun x hx => ?_
                          obtain ⟨e0, he0, hx0⟩ := List.mem_flatten.1 hx
                          obtain ⟨i0, hi0, rfl⟩ := List.getElem_of_mem he0
                          obtain ⟨j0, hj0, rfl⟩ := List.getElem_of_mem hx0
                          have hg : new.getD i0 [] = new[i0] := by simp [List.getD_eq_getElem?_getD, hi0]
                          have := l3 i0 j0 hi0 (by have := l2 i0 hi0; rw [hg] at this; omega)
                          rw [hg] at this
                          simpa [List.getD_eq_getElem?_getD, hj0] using this
                        obtain ⟨c', w', s1, s2, s3, s4, s5⟩ := storeCells_get (P := P) (o := off * (sz + 1) + len * (sz + 1)) (vs := an.toList) b1 hcl (l5.ones hones) (fun k hk => b6 k (by omega))
                        · refine ⟨w', ?_, s5, b8 rfl, ?_⟩
                          · refine run_append_place (P := P) (w' := w') (n := new.length) h1 h2 a1 a2 hu hxd hxi hsz l1 hcle l4 ?_
                            simp only [add_plain]
                            exact s1
                          · refine row_write hO2 b1 s2 s3 s5 (by rw [k1]; exact hlens') (by rw [k1]; exact hlen') (fun j k hj hk => ?_)
                            rw [k1] at hk ⊢
                            rw [s4]
                            have e1 := l5.1
                            rw [flat_len _ l2] at e1
                            rcases hsel j hj with ⟨g1, g2, g3⟩ | ⟨g1, g2, g3⟩
                            · have hin : off * (sz + 1) + len * (sz + 1) ≤ j * (sz + 1) + k ∧ j * (sz + 1) + k < off * (sz + 1) + len * (sz + 1) + an.toList.length := by
                                rw [e1, ← Nat.add_mul, ← Nat.add_mul]
                                have q1 := Nat.mul_le_mul_right (sz + 1) g1
                                have q2 := Nat.mul_le_mul_right (sz + 1) (show j + 1 ≤ off + len + new.length from g2)
                                rw [Nat.add_mul, Nat.one_mul] at q2
                                omega
                              rw [if_pos hin, g3]
                              have e2 : j * (sz + 1) + k - (off * (sz + 1) + len * (sz + 1)) = (j - (off + len)) * (sz + 1) + k := by
                                rw [Nat.sub_mul, Nat.add_mul]
                                have q1 := Nat.mul_le_mul_right (sz + 1) g1
                                rw [Nat.add_mul] at q1
                                omega
                              rw [e2]
                              have hj2 : j - (off + len) < new.length := by omega
                              have := l5.2 ((j - (off + len)) * (sz + 1) + k) (by rw [flat_len _ l2]; exact mul_add_lt hj2 hk)
                              rw [flat_get AV.no _ l2 _ k hj2 hk] at this
                              exact ⟨this, l3 _ k hj2 hk⟩
                            · have hout : ¬ (off * (sz + 1) + len * (sz + 1) ≤ j * (sz + 1) + k ∧ j * (sz + 1) + k < off * (sz + 1) + len * (sz + 1) + an.toList.length) := by
                                rw [e1, ← Nat.add_mul, ← Nat.add_mul]
                                intro q
                                by_cases h3 : off + len ≤ j
                                · have h4 : off + len + new.length ≤ j := by omega
                                  have := Nat.mul_le_mul_right (sz + 1) h4
                                  omega
                                · have := Nat.mul_le_mul_right (sz + 1) (show j + 1 ≤ off + len by omega)
                                  rw [Nat.add_mul, Nat.one_mul] at this
                                  omega
                              rw [if_neg hout, g3]
                              exact b5 j k g2 hk
                      split at ha
                      · rename_i hfit
                        split at ha
                        · rename_i hcd
                          cases ha
                          have hlen2 : (es.take (off + len) ++ new ++ es.drop (off + len + new.length)).length = es.length := by simp; omega
                          have hsg := fun j => seg_get ([] : List AV) es new (off + len) hcd.2 j
                          have hO3 := hO
                          obtain ⟨c0, cty, frz, b1, b2, b3, b4, b5, b6, b7, b8⟩ := hO3
                          rw [k1] at b3 b4
                          obtain ⟨w', r1, r2, r3, r4⟩ := hplace (es.take (off + len) ++ new ++ es.drop (off + len + new.length)) hcd.1 (by omega) (by rw [hlen2]; exact b3) (fun i hi => by
                              rw [hsg]
                              split
                              · exact l2 _ (by omega)
                              · exact b4 i (by rw [hlen2] at hi; exact hi)) (fun j hj => by
                              rw [hlen2] at hj
                              by_cases q : off + len ≤ j ∧ j < off + len + new.length
                              · exact .inl ⟨q.1, q.2, by rw [hsg, if_pos q]⟩
                              · exact .inr ⟨q, hj, by rw [hsg, if_neg q]⟩)
                          have hlive : h id ≠ .dead := by rw [hid]; intro q; cases q
                          obtain ⟨t1, t2⟩ := hR.write k0 hlive r3 r2 r4
                          refine ⟨_, w', φ, r1, t1, t2, Dom.refl _ _, .arr id off _ cap (sz + 1) loose mm c k0 k1 hfit k3 k4 k5⟩
                        · cases ha
                      · rename_i hfit
                        split at ha
                        · rename_i hloose
                          split at ha
                          · rename_i hcd
                            obtain ⟨hfr, hoff, hlenes⟩ := hcd
                            subst hoff
                            cases ha
                            have hn : φ n = none := hnn n (Nat.le_refl _) (Nat.lt_succ_self _)
                            have htk : (es.drop 0).take len = es := by rw [List.drop_zero, hlenes, List.take_length]
                            by_cases hc : len + new.length ≤ c
                            · -- in place, under a new number
                              have hO3 := hO
                              obtain ⟨c0, cty, frz, b1, b2, b3, b4, b5, b6, b7, b8⟩ := hO3
                              rw [k1] at b3 b4
                              obtain ⟨w', r1, r2, r3, r4⟩ := hplace (es ++ new) hfr hc (by
                                  rw [List.length_append, ← hlenes]
                                  refine Nat.le_trans (Nat.mul_le_mul_right _ ?_) k5
                                  omega) (append_lens b4 l2) (fun j hj => by
                                  by_cases q : j < es.length
                                  · refine .inr ⟨by omega, q, by simp [List.getD_eq_getElem?_getD, List.getElem?_append_left q]⟩
                                  · refine .inl ⟨by omega, by simp at hj; omega, ?_⟩
                                    rw [Nat.zero_add, hlenes]
                                    simp [List.getD_eq_getElem?_getD, List.getElem?_append_right (show es.length ≤ j by omega)])
                              have hlive : h id ≠ .dead := by rw [hid]; intro q; cases q
                              have hidn : id ≠ n := fun q => by rw [q, hn] at k0; cases k0
                              -- the block under the new number
                              have hk : ∀ b, im b → w'.heap[b]? = w.heap[b]? := fun b hb => r2.other b (fun e => r3 (e ▸ hb))
                              have hle' := addPhi_le (m := mm) hn
                              refine ⟨_, w', addPhi φ n mm, r1, ⟨fun b hb => ?_, fun i m hm => ?_, fun i m hm => ?_, fun i i' m m' hm hm' e => ?_⟩, ⟨r2.os, r2.tape, r2.output, by rw [r2.size]; exact Nat.le_refl _, hle', fun _ h => h, hk, fun b hb hnb => r2.other b (fun e => hnb id mm k0 e.symm), fun i m hm => ?_, fun _ h => .inl h⟩, Dom.add _, ?_⟩
                              · rw [r2.size]; exact hR.imlt b hb
                              · rw [r2.size]
                                unfold addPhi at hm
                                split at hm
                                · cases hm; exact hR.lt id _ k0
                                · exact hR.lt i m hm
                              · simp only [updW]
                                unfold addPhi at hm
                                split at hm
                                · rename_i e
                                  subst e
                                  cases hm
                                  simp only [upd, Ne.symm hidn, if_false, if_true]
                                  exact r4.mono hle' (fun b hb => ⟨hb, rfl⟩) rfl (fun h => h)
                                · rename_i e
                                  by_cases e2 : i = id
                                  · subst e2; simp [upd]; trivial
                                  · simp only [upd, e, e2, if_false]
                                    by_cases eb : m.blk = mm.blk
                                    · rcases hR.inj i id m mm hm k0 eb with q | q | q
                                      · exact absurd q e2
                                      · rw [q]; trivial
                                      · exact absurd q hlive
                                    · exact (hR.obj i m hm).mono hle' (fun b hb => ⟨hb, hk b hb⟩) (r2.other _ eb) (fun h => h)
                              · simp only [updW]
                                unfold addPhi at hm hm'
                                split at hm <;> split at hm'
                                · rename_i e1 e2; exact .inl (e1.trans e2.symm)
                                · rename_i e1 e2
                                  cases hm
                                  rcases hR.inj id i' mm m' k0 hm' e with q | q | q
                                  · subst q; right; right; simp [upd]
                                  · exact absurd q hlive
                                  · right; right; by_cases e3 : i' = id <;> simp [upd, e2, e3, q]
                                · rename_i e1 e2
                                  cases hm'
                                  rcases hR.inj i id m mm hm k0 e with q | q | q
                                  · subst q; right; left; simp [upd]
                                  · right; left; by_cases e3 : i = id <;> simp [upd, e1, e3, q]
                                  · exact absurd q hlive
                                · rename_i e1 e2
                                  rcases hR.inj i i' m m' hm hm' e with q | q | q
                                  · exact .inl q
                                  · right; left; by_cases e3 : i = id <;> simp [upd, e1, e3, q]
                                  · right; right; by_cases e3 : i' = id <;> simp [upd, e2, e3, q]
                              · unfold addPhi at hm
                                split at hm
                                · cases hm; exact .inr ⟨id, mm, k0, rfl⟩
                                · exact .inr ⟨i, m, hm, rfl⟩
                              · have := V.arr (im := im) (w := w') n 0 (len + new.length) (len + new.length) (sz + 1) true mm c (addPhi_self φ n _) k1 (Nat.le_refl _) hc (fun e => by cases e) k5
                                exact this
                            · obtain ⟨u, w', φ', q1, q2⟩ := hgrow hn (by omega)
                              rw [htk] at q2
                              exact ⟨u, w', φ', q1, q2.kill id⟩
                          · cases ha
                        · rename_i hloose
                          cases ha
                          have hcc := k4 (by simpa using hloose)
                          exact hgrow (hnn n (Nat.le_refl _) (Nat.lt_succ_self _)) (by omega)
                  · cases ha
                · cases ha
              · cases ha
            · cases ha
          · cases ha
      · cases ha
    · cases ha
  · cases ha
end
end Go.Pv
