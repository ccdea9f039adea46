/- A part of the proof that AccessRights returns true wherever its input is of bulk at most 1048576: what the functions that it reaches answer. No theorem of the claim stands here. -/
import Derived.Test.YtedapkgjicmhjaaGreatDoorPvHpC
set_option linter.unusedSimpArgs false
set_option linter.unusedVariables false
namespace Go.Pv
open Go Go.RowKit

section
variable {P : Program} {im : Nat → Prop} {w : World} {φ : Phi} {h : Hp}

theorem dm (k s : Nat) : k / (s + 1) * (s + 1) + k % (s + 1) = k := by rw [Nat.mul_comm]; exact Nat.div_add_mod k (s + 1)

/-- Cell by cell, and flat. -/
theorem VL.toFlat {es : List (List AV)} {sz : Nat} (hl : ∀ i, i < es.length → (es.getD i []).length = sz + 1) (f : Nat → Value) (hv : ∀ i o, i < es.length → o < sz + 1 → V im w φ ((es.getD i []).getD o .no) (f (i * (sz + 1) + o))) :
    VL im w φ es.flatten ((List.range (es.length * (sz + 1))).map f) := by
  refine ⟨by rw [flat_len es hl]; simp, fun k hk => ?_⟩
  rw [flat_len es hl] at hk
  have h1 : k / (sz + 1) < es.length := Nat.div_lt_of_lt_mul (by rw [Nat.mul_comm]; exact hk)
  have h2 : k % (sz + 1) < sz + 1 := Nat.mod_lt _ (by omega)
  have := hv _ _ h1 h2
  rw [← flat_get AV.no es hl _ _ h1 h2, dm] at this
  simpa [List.getD_eq_getElem?_getD, hk] using this

theorem bytes_flat (s : List UInt8) : (s.map fun b => [AV.int .u8 (b.toNat : Int)]).flatten = s.map fun b => AV.int .u8 (b.toNat : Int) := by
  induction s with
  | nil => rfl
  | cons b r ih => simpa using ih

/-- The elements of a slice, or the bytes of a string, as the model reads them. -/
theorem els_cells (hR : Rel im w φ h) {x : AV} {v : Value} (hV : V im w φ x v) {sz : Nat} {es : List (List AV)} (he : elsOf h (sz + 1) x = some es) :
    (Builtin.lenOf v).run P w = .ok es.length w ∧ (∀ i, i < es.length → (es.getD i []).length = sz + 1) ∧ (∀ i o, i < es.length → o < sz + 1 → ((es.getD i []).getD o .no).one = true) ∧
    ∃ arr, (Builtin.firstCells (sz + 1) es.length v).run P w = .ok arr w ∧ VL im w φ es.flatten arr.toList := by
  unfold elsOf at he
  split at he
  · cases he
    cases hV
    exact ⟨rfl, fun i hi => by simp at hi, fun i o hi => by simp at hi, #[], rfl, VL.nil⟩
  · rename_i sz' es' full
    split at he
    · rename_i e
      cases he
      subst e
      cases hV with
      | lst _ _ _ a cap vs k1 k2 k3 k4 k4o k5 k6 =>
        have hl := run_loadCells (P := P) (w := w) a (es.length * (sz + 1)) 0 #[] (fun k => vs (k / (sz + 1)) (k % (sz + 1))) (fun k hk => by
          have h1 : k / (sz + 1) < es.length := Nat.div_lt_of_lt_mul (by rw [Nat.mul_comm]; exact hk)
          have h2 : k % (sz + 1) < sz + 1 := Nat.mod_lt _ (by omega)
          have := k3 _ _ h1 h2
          rw [dm] at this
          simpa using this)
        refine ⟨rfl, k2, k4o, _, by simp only [Builtin.firstCells, loadCells]; exact hl, ?_⟩
        simp only [Array.toList_append, List.nil_append]
        have := VL.toFlat (im := im) (w := w) (φ := φ) k2 (fun k => vs ((0 + k) / (sz + 1)) ((0 + k) % (sz + 1))) (fun i o hi ho => by
          have e1 : (0 + (i * (sz + 1) + o)) / (sz + 1) = i := by rw [Nat.zero_add, Nat.mul_comm, Nat.mul_add_div (by omega), Nat.div_eq_of_lt ho]; omega
          have e2 : (0 + (i * (sz + 1) + o)) % (sz + 1) = o := by rw [Nat.zero_add, Nat.mul_comm, Nat.mul_add_mod, Nat.mod_eq_of_lt ho]
          simp only [e1, e2]
          exact (k4 i o hi ho).phi (phi0_le φ))
        simpa using this
    · cases he
  · rename_i id off len cap sz' loose
    split at he
    · rename_i es' fr hid
      split at he
      · rename_i hc
        obtain ⟨e, hle⟩ := hc
        subst e
        cases he
        cases hV with
        | arr _ _ _ _ _ _ mm c k0 k1 k2 k3 k4 k5 =>
          have hO := hR.obj id mm k0
          rw [hid] at hO
          obtain ⟨c0, ty, frz, h1, h2, h3, h4, h5, h6, _⟩ := hO
          rw [k1] at h3 h4 h5
          have hlen : ((es'.drop off).take len).length = len := by simp; omega
          have hget : ∀ i, i < len → ((es'.drop off).take len).getD i [] = es'.getD (off + i) [] := fun i hi => by
            simp [List.getD_eq_getElem?_getD, List.getElem?_take, hi, List.getElem?_drop]
          have hl := run_loadCells (P := P) (w := w) ⟨mm.blk, off * (sz + 1), none⟩ (len * (sz + 1)) 0 #[] (fun k => c0.getD (off * (sz + 1) + k) undef) (fun k hk => by
            simp only [Nat.zero_add]
            rw [add_plain]
            refine cell_of_block h1 ?_
            have := Nat.mul_le_mul_right (sz + 1) hle
            rw [Nat.add_mul] at this
            omega)
          refine ⟨by rw [hlen]; rfl, fun i hi => ?_, fun i o hi ho => ?_, _, by rw [hlen]; simp only [Builtin.firstCells, loadCells]; exact hl, ?_⟩
          · rw [hlen] at hi; rw [hget i hi]; exact h4 _ (by omega)
          · rw [hlen] at hi; rw [hget i hi]; exact (h5 _ o (by omega) ho).2
          · simp only [Array.toList_append, List.nil_append]
            have := VL.toFlat (im := im) (w := w) (φ := φ) (es := (es'.drop off).take len) (sz := sz) (fun i hi => by rw [hlen] at hi; rw [hget i hi]; exact h4 _ (by omega)) (fun k => c0.getD (off * (sz + 1) + (0 + k)) undef) (fun i o hi ho => by
              rw [hlen] at hi
              rw [hget i hi]
              have := (h5 (off + i) o (by omega) ho).1
              rw [Nat.add_mul] at this
              rw [show off * (sz + 1) + (0 + (i * (sz + 1) + o)) = off * (sz + 1) + i * (sz + 1) + o by omega]
              exact this)
            rw [hlen] at this
            simpa using this
      · cases he
    · cases he
  · rename_i s
    split at he
    · rename_i e
      cases he
      have e0 : sz = 0 := by omega
      subst e0
      rw [hV.str_inv]
      have hg : ∀ i, i < s.length → (strEls s).getD i [] = [.int .u8 (s.getD i 0).toNat] := fun i hi => by
        simp [strEls, List.getD_eq_getElem?_getD, hi]
      refine ⟨by simp [Builtin.lenOf, strEls, size_mk], fun i hi => ?_, fun i o hi ho => ?_, ((⟨s.toArray⟩ : ByteArray).extract 0 (strEls s).length).data.map (fun b => .int .u8 b.toNat), rfl, ?_⟩
      · simp [strEls] at hi; rw [hg i hi]; rfl
      · simp [strEls] at hi; rw [hg i hi]
        have : o = 0 := by omega
        subst this
        rfl
      · rw [extract_mk]
        simp only [strEls, List.length_map, List.take_length, List.drop_zero, Array.toList_map]
        rw [bytes_flat s]
        exact VL.map s _ _ fun b _ => .int _ _
    · cases he
  · cases he

theorem growBy_le (need : Nat) : ∀ (r c : Nat), c < need → Builtin.growBy need r c ≤ 2 * need + 2 * c + 2000 ∨ r > 4 := by
  intro r c hc
  by_cases hr : r > 4
  · exact .inr hr
  · left
    have step : ∀ c, c + (c + 768) / 4 ≤ c + c / 4 + 193 := fun c => by omega
    have h4 : r ≤ 4 := by omega
    match r, h4 with
    | 0, _ => simp [Builtin.growBy]; omega
    | 1, _ => simp only [Builtin.growBy]; split <;> omega
    | 2, _ => simp only [Builtin.growBy]; (repeat' split) <;> omega
    | 3, _ => simp only [Builtin.growBy]; (repeat' split) <;> omega
    | 4, _ => simp only [Builtin.growBy]; (repeat' split) <;> omega
theorem nextcap_le (need old : Nat) (h : old < need) : Builtin.nextslicecap need old ≤ 4 * need + 2000 := by
  unfold Builtin.nextslicecap
  split
  · omega
  · split
    · omega
    · rcases growBy_le need 4 old h with h1 | h1 <;> omega


theorem run_append_grow {st xt e : TypeId} {xd : TypeDesc} {sz : Nat} {zv : Value} {inf : TypeInfo} {ats : Array TypeId} {ty : TypeId} {args : Array Value} {vx : Value} {base : Option Addr} {sLen sCap n : Nat} {ao an : Array Value}
    (h1 : ats[0]? = some st) (h2 : ats[1]? = some xt) (a1 : args[0]? = some (.slice base sLen sCap)) (a2 : args[1]? = some vx) (he : P.underlying st = some (.slice e)) (hx : P.underlying xt = some xd) (hxi : notInt xd = true)
    (hs : tSize P e = some sz) (hz : (zeroValue e).run P w.drew = .ok zv w.drew) (hi : P.info? e = some inf) (hb : inf.bytes ≤ 1024) (hn : (Builtin.lenOf vx).run P w = .ok n w) (hneed : sLen + n ≤ 2147483648) (hcap : sCap < sLen + n)
    (ho : (Builtin.firstCells sz sLen (.slice base sLen sCap)).run P w.drew = .ok ao w.drew) (hnw : (Builtin.firstCells sz n vx).run P w.drew = .ok an w.drew) :
    ∃ cap', sLen + n ≤ cap' ∧ (Builtin.append_ ats ty args).run P w = .ok (.slice (some ⟨w.heap.size, 0, none⟩) (sLen + n) cap') ((w.drew).alloc (.cells (ao ++ an ++ Builtin.zeroCells zv.cells (cap' - (sLen + n))) e)) := by
  refine ⟨Question.cut (.appendCap (sLen + n) sCap e) (w.tape w.drawn (.appendCap (sLen + n) sCap e)), by simp only [Question.cut]; omega, ?_⟩
  have hlim : ¬ (Builtin.nextslicecap (sLen + n) sCap * inf.bytes > 2 ^ 48) := by
    have k1 := nextcap_le (sLen + n) sCap hcap
    have : Builtin.nextslicecap (sLen + n) sCap * inf.bytes ≤ (4 * 2147483648 + 2000) * 1024 := Nat.mul_le_mul (by omega) hb
    omega
  have hmax : ¬ (((sLen + n : Nat) : Int) > IntKind.i64.max) := by
    have : IntKind.i64.max = 9223372036854775807 := rfl
    rw [this]; omega
  unfold Builtin.append_
  have hng : ¬ (sLen + n ≤ sCap) := by omega
  have hnf : Question.forced (.appendCap (sLen + n) sCap e) = false := rfl
  simp only [h1, a1, a2, h2, Sem.run_bind, run_under he, Result.andThen_ok, run_size hs, run_under hx, Sem.run_pure, Sem.run_ite]
  split
  · simp [notInt] at hxi
  · rename_i hc
    simp only [hc, Bool.false_eq_true, if_false, hn, Result.andThen_ok, hng, run_info hi, hmax, false_and, hlim, run_choose, hnf, run_askRoom, World.drew_eq, ho, Bool.not_false, if_true, hnw, hz, Sem.run_bind, Sem.run_pure, Sem.run_ite, run_under he]
    simp [newRow]
    rfl
end
end Go.Pv
