/- A part of the proof that AccessRights returns true wherever its input is of bulk at most 1048576: what the functions that it reaches answer. No theorem of the claim stands here. -/
import Derived.Test.YtedapkgjicmhjaaGreatDoorPvOne
namespace Go.Pv
open Go Go.RowKit
set_option linter.unusedSimpArgs false
set_option linter.unusedVariables false

/-! ### what an operation looks at -/
theorem asks_map {ρ ρ' : Operand → AV} {args : Array Operand} (h : ∀ x ∈ args, ρ x = ρ' x) : args.toList.map ρ = args.toList.map ρ' :=
  List.map_congr_left fun x hx => h x (by simpa using hx)

theorem opE_congr {C : Ctx} {dr : Bool} {ρ ρ' : Operand → AV} (o : Oper) (n ch : Nat) (h : Hp) (hh : ∀ x ∈ o.op.operands, ρ x = ρ' x) : opE C dr ρ o n h ch = opE C dr ρ' o n h ch ∧ rdE C ρ o.op h = rdE C ρ' o.op h := by
  obtain ⟨dst, op, ty, pos, after, guard⟩ := o
  have pairs : ∀ ps : Array (Nat × Operand), (∀ x ∈ ps.map (·.2), ρ x = ρ' x) → (ps.toList.map fun (i, x) => (i, ρ x)) = (ps.toList.map fun (i, x) => (i, ρ' x)) := fun ps hp =>
    List.map_congr_left fun p hm => by
      obtain ⟨i, x⟩ := p
      simp only [hp x (Array.mem_map.2 ⟨(i, x), by simpa using hm, rfl⟩)]
  simp only at hh ⊢
  cases op <;> simp only [Op.operands] at hh
  case build t ps => simp only [opE, opP, opR, opN, rdE, pairs ps fun x hx => hh x (by simpa using hx), and_self]
  case buildSlice t n ps => simp only [opE, opP, opR, opN, rdE, pairs ps fun x hx => hh x (by simpa using hx), and_self]
  case makeFunc fn first captured =>
    have := asks_map (ρ := ρ) (ρ' := ρ') (args := captured) fun x hx => hh x (by simp [hx])
    cases fn <;> simp [opE, opP, opR, opN, rdE, this]
  case makeMap t r => cases r <;> simp_all [opE, opP, opR, opN, rdE]
  case slice t x lo hi mx => cases lo <;> cases hi <;> cases mx <;> simp_all [opE, opP, opR, opN, rdE]
  case call c =>
    obtain ⟨callee, args, ats⟩ := c
    have ha := asks_map (ρ := ρ) (ρ' := ρ') (args := args) fun x hx => hh x (by simp [Call.operands, hx])
    have hg : ∀ (i : Nat) x, args[i]? = some x → ρ x = ρ' x := fun i x hx => hh x (by simp [Call.operands]; exact .inr (Array.mem_of_getElem? hx))
    cases callee with
    | value f =>
      have hf : ρ f = ρ' f := hh f (by simp [Call.operands])
      simp only [opE, rdE, hf, ha, and_self]
    | invoke r m => simp [opE, opP, opR, opN, rdE]
    | builtin b =>
      have hm : ∀ x ∈ args.toList, ρ x = ρ' x := fun x hx => by
        have : x ∈ args := by simpa using hx
        exact hh x (by simp [Call.operands, this])
      have hfl : args.toList.flatMap (fun x => ids1 (ρ x)) = args.toList.flatMap (fun x => ids1 (ρ' x)) := by
        rw [List.flatMap_def, List.flatMap_def]
        exact congrArg List.flatten (List.map_congr_left fun x hx => by rw [hm x hx])
      refine ⟨?_, by simp only [rdE, hfl]⟩
      cases h0 : args[0]? with
      | none => cases b <;> simp [opE, opP, opR, opN, h0, ha]
      | some x0 =>
        have e0 := hg 0 x0 h0
        cases h1 : args[1]? with
        | none =>
          cases t0 : ats[0]? <;> cases b <;> simp [opE, opP, opR, opN, h0, h1, e0, ha, t0]
        | some x1 =>
          have e1 := hg 1 x1 h1
          cases t0 : ats[0]? <;> cases t1 : ats[1]? <;> cases b <;> simp [opE, opP, opR, opN, h0, h1, e0, e1, ha, t0, t1]
  all_goals (first | (simp [opE, opP, opR, opN, opS, rdE]; done) | (simp_all [opE, opP, opR, opN, opS, rdE]; done))

/-! ### which objects an operation looks at -/
theorem congr_L {h h' : Hp} {f g : AV → Option (AV × List Nat)} (hf : ∀ x x' ids, f x = some (x', ids) → (∀ id ∈ ids, h' id = h id) → g x = some (x', ids)) : ∀ xs xs' ids, snapLf f xs = some (xs', ids) → (∀ id ∈ ids, h' id = h id) → snapLf g xs = some (xs', ids) := by
  intro xs
  induction xs with
  | nil => intro xs' ids hs _; simp only [snapLf] at hs ⊢; exact hs
  | cons x r ih2 =>
    intro xs' ids hs hi
    simp only [snapLf] at hs ⊢
    split at hs
    · rename_i v' a r' b q1 q2
      cases hs
      rw [hf _ _ _ q1 fun j hj => hi j (by simp [hj]), ih2 _ _ q2 fun j hj => hi j (by simp [hj])]
    · cases hs
theorem congr_E {h h' : Hp} {f g : AV → Option (AV × List Nat)} (hf : ∀ x x' ids, f x = some (x', ids) → (∀ id ∈ ids, h' id = h id) → g x = some (x', ids)) : ∀ xs xs' ids, snapEf f xs = some (xs', ids) → (∀ id ∈ ids, h' id = h id) → snapEf g xs = some (xs', ids) := by
  intro xs
  induction xs with
  | nil => intro xs' ids hs _; simp only [snapEf] at hs ⊢; exact hs
  | cons x r ih2 =>
    intro xs' ids hs hi
    simp only [snapEf] at hs ⊢
    split at hs
    · rename_i v' a r' b q1 q2
      cases hs
      rw [congr_L hf _ _ _ q1 fun j hj => hi j (by simp [hj]), ih2 _ _ q2 fun j hj => hi j (by simp [hj])]
    · cases hs
theorem snap_congr1 {h h' : Hp} : ∀ d, ∀ x x' ids, snap h d x = some (x', ids) → (∀ id ∈ ids, h' id = h id) → snap h' d x = some (x', ids) := by
  intro d
  induction d with
  | zero => intro x x' ids hs; simp [snap] at hs
  | succ d ih =>
    intro x x' ids hs hi
    cases x <;> simp only [snap] at hs ⊢
    case arr id off len cap sz loose =>
      split at hs
      · rename_i es fr hid
        split at hs
        · rename_i hle
          simp only [Option.map_eq_some_iff] at hs
          obtain ⟨⟨a, b⟩, h1, e⟩ := hs
          cases e
          rw [hi id (by simp), hid]
          simp only [hle, if_true, congr_E ih _ _ _ h1 fun j hj => hi j (by simp [hj]), Option.map_some]
        · cases hs
      · cases hs
    case agg cs =>
      simp only [Option.map_eq_some_iff] at hs
      obtain ⟨⟨a, b⟩, h1, e⟩ := hs
      cases e
      rw [congr_L ih _ _ _ h1 hi]; rfl
    case tup cs =>
      simp only [Option.map_eq_some_iff] at hs
      obtain ⟨⟨a, b⟩, h1, e⟩ := hs
      cases e
      rw [congr_L ih _ _ _ h1 hi]; rfl
    case fn f cs =>
      simp only [Option.map_eq_some_iff] at hs
      obtain ⟨⟨a, b⟩, h1, e⟩ := hs
      cases e
      rw [congr_L ih _ _ _ h1 hi]; rfl
    case iface t y =>
      simp only [Option.map_eq_some_iff] at hs
      obtain ⟨⟨a, b⟩, h1, e⟩ := hs
      cases e
      rw [ih _ _ _ h1 hi]; rfl
    all_goals exact hs
theorem snap_congr {h h' : Hp} (d : Nat) : (∀ x x' ids, snap h d x = some (x', ids) → (∀ id ∈ ids, h' id = h id) → snap h' d x = some (x', ids)) ∧
    (∀ xs xs' ids, snapL h d xs = some (xs', ids) → (∀ id ∈ ids, h' id = h id) → snapL h' d xs = some (xs', ids)) ∧
    (∀ es es' ids, snapE h d es = some (es', ids) → (∀ id ∈ ids, h' id = h id) → snapE h' d es = some (es', ids)) := ⟨snap_congr1 d, congr_L (snap_congr1 d), congr_E (snap_congr1 d)⟩

theorem callA_local {C : Ctx} {f : FuncId} {F} (hF : C.TP f = some F) {args : List AV} {n : Nat} {h h' : Hp} {rd : List Nat} {r} (hrd : (snapL h snapD args).map (·.2) = some rd) (hh : ∀ id ∈ rd, h' id = h id) (hc : callA C true f args n h = some r) :
    callA C true f args n h' = some r ∧ (snapL h' snapD args).map (·.2) = some rd := by
  simp only [Option.map_eq_some_iff] at hrd
  obtain ⟨⟨a, ids⟩, h1, e⟩ := hrd
  cases e
  have h2 := (snap_congr (h := h) (h' := h') snapD).2.1 _ _ _ h1 hh
  refine ⟨?_, by rw [h2]; rfl⟩
  unfold callA at hc ⊢
  simp only [hF, h1, h2] at hc ⊢
  split at hc
  · rename_i v hv
    split at hc
    · rename_i hcond
      cases hc
      rw [if_pos hcond]
    · simp at hc
  · cases hc

theorem appendA_local {P : Program} {st xt : TypeId} {s x : AV} {n : Nat} {h h' : Hp} (hh : ∀ id ∈ ids1 s ++ ids1 x, h' id = h id) : appendA P st xt s x n h' = appendA P st xt s x n h := by
  have e1 : ∀ sz, elsOf h' sz x = elsOf h sz x := fun sz => by
    cases x <;> simp only [elsOf]
    case arr id off len cap sz' loose => rw [hh id (by simp [ids1])]
  unfold appendA
  simp only [e1]
  cases s
  case arr id off len cap sz' loose => have q := hh id (by simp [ids1]); simp only [q]
  case lst sz es full => cases full <;> rfl
  all_goals rfl

theorem opE_local {C : Ctx} {ρ : Operand → AV} (o : Oper) {n ch : Nat} {h h' : Hp} {rd : List Nat} {r} (hrd : rdE C ρ o.op h = some rd) (hh : ∀ id ∈ rd, h' id = h id) (he : opE C true ρ o n h ch = some r) :
    opE C true ρ o n h' ch = some r ∧ rdE C ρ o.op h' = some rd := by
  obtain ⟨dst, op, ty, pos, after, guard⟩ := o
  simp only at hrd ⊢
  cases op
  case load t a =>
    simp only [rdE] at hrd ⊢
    cases hrd
    refine ⟨?_, rfl⟩
    simp only [opE, opP, opN, opR] at he ⊢
    cases e : ρ a <;> simp only [e] at he ⊢ <;> try exact he
    rw [hh _ (by simp [e, ids1])]; exact he
  case store t a x =>
    simp only [rdE] at hrd ⊢
    cases hrd
    refine ⟨?_, rfl⟩
    simp only [opE, opS] at he ⊢
    cases e : ρ a <;> simp only [e] at he ⊢ <;> try exact he
    rw [hh _ (by simp [e, ids1])]; exact he
  case mapUpdate t m k v =>
    simp only [rdE] at hrd ⊢
    cases hrd
    refine ⟨?_, rfl⟩
    simp only [opE, mapUpdA] at he ⊢
    cases t0 : tMap C.P t with
    | none => simp only [t0] at he; cases he
    | some q =>
      cases e : ρ m <;> simp only [t0, e] at he ⊢ <;> try exact he
      rw [hh _ (by simp [e, ids1])]; exact he
  case lookup t m k ok =>
    simp only [rdE] at hrd ⊢
    cases hrd
    refine ⟨?_, rfl⟩
    simp only [opE, opP, opN, opR] at he ⊢
    cases e : ρ m <;> simp only [e] at he ⊢ <;> try exact he
    rw [hh _ (by simp [e, ids1])]; exact he
  case call c =>
    obtain ⟨callee, args, ats⟩ := c
    cases callee with
    | value f =>
      simp only [rdE] at hrd ⊢
      simp only [opE] at he ⊢
      split at hrd
      · rename_i g caps hf
        simp only [hf] at he ⊢
        simp only [Option.map_eq_some_iff] at he
        obtain ⟨⟨v1, ws1, n1⟩, hc, e⟩ := he
        split at hrd
        · rename_i F hF
          obtain ⟨h1, h2⟩ := callA_local hF hrd hh hc
          rw [h1]
          exact ⟨by rw [← e]; rfl, h2⟩
        · cases hrd
      · rename_i hne
        cases hrd
        refine ⟨?_, rfl⟩
        split at he
        · rename_i g caps hf; exact absurd hf (hne g caps)
        · cases he
    | invoke r m => simp only [rdE, opE, opP, opR, opN] at hrd he ⊢; exact ⟨he, hrd⟩
    | builtin b =>
      simp only [rdE] at hrd ⊢
      cases hrd
      refine ⟨?_, rfl⟩
      cases b <;> simp only [opE, opP, opR, opN] at he ⊢ <;> try exact he
      case append =>
        cases t0 : ats[0]? <;> cases t1 : ats[1]? <;> cases a0 : args[0]? <;> cases a1 : args[1]? <;> simp only [t0, t1, a0, a1] at he ⊢ <;> try exact he
        rename_i st xt s x
        have hs : s ∈ args.toList := by simpa using Array.mem_of_getElem? a0
        have hx : x ∈ args.toList := by simpa using Array.mem_of_getElem? a1
        rw [appendA_local (h := h) fun id hid => hh id ?_]
        · exact he
        · rcases List.mem_append.1 hid with q | q
          · exact List.mem_flatMap.2 ⟨s, hs, q⟩
          · exact List.mem_flatMap.2 ⟨x, hx, q⟩
      case len =>
        cases t0 : ats[0]? <;> cases a0 : args[0]? <;> simp only [t0, a0] at he ⊢ <;> try exact he
        rename_i t x
        have hx : x ∈ args.toList := by simpa using Array.mem_of_getElem? a0
        cases e : ρ x <;> simp only [e] at he ⊢ <;> try exact he
        rw [hh _ (List.mem_flatMap.2 ⟨x, hx, by simp [e, ids1]⟩)]
        exact he
  all_goals (simp only [rdE] at hrd ⊢; cases hrd; refine ⟨?_, rfl⟩; simp only [opE, opP, opN, opR] at he ⊢; exact he)
end Go.Pv
