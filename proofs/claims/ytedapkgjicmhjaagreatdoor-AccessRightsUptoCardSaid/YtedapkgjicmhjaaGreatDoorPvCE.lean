/- A part of the proof that AccessRights returns true wherever its input is of bulk at most 1048576: what the functions that it reaches answer. No theorem of the claim stands here. -/
import Derived.Test.YtedapkgjicmhjaaGreatDoorPvCD
namespace Go.Pv
open Go
set_option linter.unusedSimpArgs false
set_option linter.unusedVariables false

theorem keyC_ok {P : Program} {t : TypeId} {q : KQ} (h : compKQ P t = some q) {k : AV} (hk : keyC q k = true) : keyA P t k = true := by
  unfold compKQ at h
  split at h
  · rename_i ks hks
    cases h
    cases k <;> simp_all [keyC, keyA]
  · rename_i hks
    simp only [Option.map_eq_some_iff] at h
    obtain ⟨d, h1, h2⟩ := h
    subst h2
    cases k <;> simp_all [keyC, keyA, kindOf]
theorem v1_some {n : Nat} {o : Option AV} {v ws n'} (h : v1 n o = some (v, ws, n')) : o = some v ∧ ws = [] ∧ n' = n := by
  unfold v1 at h
  split at h
  · cases h; exact ⟨rfl, rfl, rfl⟩
  · cases h
theorem w1_some {n : Nat} {o : Option (Nat × AO)} {v ws n'} (h : w1 n o = some (v, ws, n')) : ∃ w, o = some w ∧ v = .no ∧ ws = [w] ∧ n' = n := by
  unfold w1 at h
  split at h
  · cases h; exact ⟨_, rfl, rfl, rfl, rfl⟩
  · cases h

theorem appendC_ok {P : Program} {st xt e : TypeId} {xd : TypeDesc} {sz by_ : Nat} {z : AV} (h1 : tElem P st = some e) (h2 : P.underlying xt = some xd) (h3 : tSize P e = some (sz + 1)) (h4 : tZero P e = some z) (h5 : tBytes P e = some by_)
    (h6 : z.cells.length = sz + 1 ∧ z.cells.all AV.one = true ∧ by_ ≤ bytesLim ∧ notInt xd = true) (s x : AV) (n : Nat) (h : Hp) : appendA P st xt s x n h = appendC (sz + 1) s x n h := by
  unfold appendA appendC
  simp only [h1, h2, h3, h4, h5, h6, if_true, and_self]
  cases elsOf h (sz + 1) x with
  | none => rfl
  | some l => cases l <;> (cases s <;> first | rfl | (rename_i full; cases full <;> rfl))

/-- Operations that look at no heap. -/
theorem opE_P {C : Ctx} {dr : Bool} {ρ : Operand → AV} {o : Oper} {n ch : Nat} {h : Hp} {v : AV} (hp : opP C.P ρ o.op = some v) : opE C dr ρ o n h ch = some (v, [], n, ch) := by
  obtain ⟨dst, op, ty, pos, after, guard⟩ := o
  simp only at hp
  cases op
  case call c =>
    obtain ⟨callee, args, ats⟩ := c
    cases callee with
    | value f => simp [opP] at hp
    | invoke r m => simp [opP] at hp
    | builtin b => cases b <;> first | (simp [opP] at hp; done) | (simp only [opE, hp])
  all_goals first | (simp [opP] at hp; done) | (simp only [opE, hp])

theorem compI_ok {C : Ctx} {dr : Bool} {env : Nat → AV} {n ch : Nat} {h : Hp} (o : Oper) {i : I} (hc : compI C.P o.op = some i) {v : AV} {ws : List (Nat × AO)} {n' : Nat} (he : iE C dr env n h i = some (v, ws, n')) :
    opE C dr (evA C.gl env) o n h ch = some (v, ws, n', ch) := by
  obtain ⟨dst, op, ty, pos, after, guard⟩ := o
  simp only at hc
  cases op
  case move x =>
    simp only [compI, Option.map_eq_some_iff] at hc
    obtain ⟨y, h1, rfl⟩ := hc
    simp only [iE] at he
    cases he
    exact opE_P (by simp [opP, compX_ev h1])
  case assign x =>
    simp only [compI, Option.map_eq_some_iff] at hc
    obtain ⟨y, h1, rfl⟩ := hc
    simp only [iE] at he
    cases he
    exact opE_P (by simp [opP, compX_ev h1])
  case pick c a b =>
    simp only [compI] at hc
    split at hc
    · rename_i c' a' b' h1 h2 h3
      cases hc
      simp only [iE] at he
      split at he
      · rename_i t ht
        cases he
        refine opE_P ?_
        simp only [opP, compX_ev h1, compX_ev h2, compX_ev h3, ht]
        cases t <;> rfl
      · cases he
    · cases hc
  case build t ps =>
    simp only [compI] at hc
    split at hc
    · rename_i z pl l h1 h2 h3
      cases hc
      simp only [iE] at he
      obtain ⟨e1, rfl, rfl⟩ := v1_some he
      refine opE_P ?_
      simp only [opP, buildA, h1, h2]
      rw [compPs_ev h3]
      exact e1
    · cases hc
  case nilCheck x =>
    simp only [compI, Option.map_eq_some_iff] at hc
    obtain ⟨y, h1, rfl⟩ := hc
    simp only [iE] at he
    obtain ⟨e1, rfl, rfl⟩ := v1_some he
    refine opE_P ?_
    simp only [opP, compX_ev h1]
    exact e1
  case binOp op t x y nm =>
    simp only [compI] at hc
    split at hc
    · rename_i x' y' h1 h2
      cases hc
      simp only [iE] at he
      obtain ⟨e1, rfl, rfl⟩ := v1_some he
      refine opE_P ?_
      simp only [opP, compX_ev h1, compX_ev h2]
      exact binC_ok e1
    · cases hc
  case unOp op t x =>
    simp only [compI, Option.map_eq_some_iff] at hc
    obtain ⟨y, h1, rfl⟩ := hc
    simp only [iE] at he
    obtain ⟨e1, rfl, rfl⟩ := v1_some he
    refine opE_P ?_
    simp only [opP, compX_ev h1]
    exact e1
  case convert src dst x =>
    simp only [compI] at hc
    split at hc
    · rename_i x' h1
      split at hc
      · rename_i hs
        split at hc
        · rename_i k hk
          cases hc
          simp only [iE] at he
          obtain ⟨e1, rfl, rfl⟩ := v1_some he
          refine opE_P ?_
          simp only [opP, compX_ev h1]
          generalize x'.ev C.gl env = vx at *
          cases vx <;> simp only [convC] at e1 <;> try (cases e1; done)
          simp only [hk, hs, if_true]
          exact e1
        · split at hc
          · rename_i hd
            cases hc
            simp only [iE] at he
            obtain ⟨e1, rfl, rfl⟩ := v1_some he
            refine opE_P ?_
            simp only [opP, compX_ev h1]
            generalize x'.ev C.gl env = vx at *
            cases vx <;> simp only [convC] at e1 <;> try (cases e1; done)
            simp only [hd, hs, and_self, if_true]
            exact e1
          · cases hc
      · cases hc
    · cases hc
  case makeInterface t x =>
    simp only [compI] at hc
    split at hc
    · cases hc
    · rename_i d hd1 hd2
      simp only [Option.map_eq_some_iff] at hc
      obtain ⟨y, h1, rfl⟩ := hc
      simp only [iE] at he
      cases he
      refine opE_P ?_
      simp only [opP, compX_ev h1, hd2]
    · cases hc
  case makeFunc fn first caps =>
    cases fn with
    | func f =>
      simp only [compI] at hc
      split at hc
      · rename_i hf
        simp only [Option.map_eq_some_iff] at hc
        obtain ⟨y, h1, rfl⟩ := hc
        simp only [iE] at he
        cases he
        refine opE_P ?_
        simp only [opP, hf, if_true, compXs_ev h1]
      · cases hc
    | _ => simp [compI] at hc
  case slice t x lo hi mx =>
    simp only [compI] at hc
    split at hc
    · rename_i x' lo' hi' mx' h1 h2 h3 h4
      split at hc
      · rename_i hs
        cases hc
        simp only [iE] at he
        obtain ⟨e1, rfl, rfl⟩ := v1_some he
        refine opE_P ?_
        simp only [opP, compX_ev h1, compO1_ev h2, compO1_ev h3, compO1_ev h4]
        generalize x'.ev C.gl env = vx at *
        cases vx <;> simp only [sliceC] at e1 <;> try (cases e1; done)
        simp only [sliceA, hs, true_and]
        exact e1
      · rename_i hs
        split at hc
        · rename_i e hel
          split at hc
          · rename_i sz hsz
            cases hc
            simp only [iE] at he
            obtain ⟨e1, rfl, rfl⟩ := v1_some he
            refine opE_P ?_
            simp only [opP, compX_ev h1, compO1_ev h2, compO1_ev h3, compO1_ev h4]
            generalize x'.ev C.gl env = vx at *
            cases vx <;> simp only [sliceC] at e1 <;> try (cases e1; done)
            · simp only [sliceA, hel, Option.any_some, hsz, Option.isSome_some, if_true]
              exact e1
            · simp only [sliceA, hel, hsz, Option.some.injEq]
              exact e1
            · simp only [sliceA, hel, hsz, Option.some.injEq]
              exact e1
          · cases hc
        · cases hc
    · cases hc
  case fieldAddr t x f =>
    simp only [compI] at hc
    split at hc
    · rename_i off ft x' h1 h2
      split at hc
      · rename_i k hk
        cases hc
        simp only [iE] at he
        obtain ⟨e1, rfl, rfl⟩ := v1_some he
        refine opE_P ?_
        simp only [opP, compX_ev h2, fieldAddrA, h1, hk]
        exact e1
      · cases hc
    · cases hc
  case field t x f =>
    simp only [compI] at hc
    split at hc
    · rename_i off ft x' h1 h2
      simp only [Option.map_eq_some_iff] at hc
      obtain ⟨r, h3, rfl⟩ := hc
      simp only [iE] at he
      obtain ⟨e1, rfl, rfl⟩ := v1_some he
      refine opE_P ?_
      simp only [opP, compX_ev h2]
      unfold fieldC at e1
      split at e1
      · rename_i cs hx
        simp only [fieldA, h1, hx, compRD_ok h3]
        exact e1
      · cases e1
    · cases hc
  case indexAddr t x i =>
    simp only [compI] at hc
    split at hc
    · rename_i x' i' h1 h2
      split at hc
      · rename_i e hel
        simp only [Option.map_eq_some_iff] at hc
        obtain ⟨sz, hsz, rfl⟩ := hc
        simp only [iE] at he
        obtain ⟨e1, rfl, rfl⟩ := v1_some he
        refine opE_P ?_
        simp only [opP, compX_ev h1, compX_ev h2]
        unfold iaddrC at e1
        split at e1
        · rename_i hi
          generalize x'.ev C.gl env = vx at *
          cases vx <;> simp only at e1 <;> try (cases e1; done)
          · simp only [indexAddrA, hi, hel, hsz, Option.some.injEq]; exact e1
          · simp only [indexAddrA, hi, hel, hsz, Option.some.injEq]; exact e1
        · cases e1
      · rename_i hel
        split at hc
        · rename_i m e ha
          simp only [Option.map_eq_some_iff] at hc
          obtain ⟨sz, hsz, rfl⟩ := hc
          simp only [iE] at he
          obtain ⟨e1, rfl, rfl⟩ := v1_some he
          refine opE_P ?_
          simp only [opP, compX_ev h1, compX_ev h2]
          unfold iaddrC at e1
          split at e1
          · rename_i hi
            generalize x'.ev C.gl env = vx at *
            cases vx <;> simp only at e1 <;> try (cases e1; done)
            · simp only [indexAddrA, hi, ha, hsz]; exact e1
            · simp only [indexAddrA, hi, ha, hsz]; exact e1
          · cases e1
        · cases hc
    · cases hc
  case index t x i =>
    simp only [compI] at hc
    split at hc
    · rename_i x' i' h1 h2
      split at hc
      · rename_i hs
        cases hc
        simp only [iE] at he
        obtain ⟨e1, rfl, rfl⟩ := v1_some he
        refine opE_P ?_
        simp only [opP, compX_ev h1, compX_ev h2]
        unfold indexC at e1
        split at e1
        · rename_i hi
          generalize x'.ev C.gl env = vx at *
          cases vx <;> simp only at e1 <;> try (cases e1; done)
          simp only [indexA, hi, hs, true_and]; exact e1
        · cases e1
      · split at hc
        · rename_i m e ha
          split at hc
          · rename_i sz r hsz hr
            cases hc
            simp only [iE] at he
            obtain ⟨e1, rfl, rfl⟩ := v1_some he
            refine opE_P ?_
            simp only [opP, compX_ev h1, compX_ev h2]
            unfold indexC at e1
            split at e1
            · rename_i hi
              generalize x'.ev C.gl env = vx at *
              cases vx <;> simp only at e1 <;> try (cases e1; done)
              simp only [indexA, hi, ha, hsz, compRD_ok hr]; exact e1
            · cases e1
          · cases hc
        · cases hc
    · cases hc
  case extract x i =>
    simp only [compI, Option.map_eq_some_iff] at hc
    obtain ⟨y, h1, rfl⟩ := hc
    simp only [iE] at he
    split at he
    · rename_i vs hx
      obtain ⟨e1, rfl, rfl⟩ := v1_some he
      refine opE_P ?_
      simp only [opP, compX_ev h1, hx]
      exact e1
    · cases he
  case load t a =>
    simp only [compI] at hc
    split at hc
    · rename_i r a' h1 h2
      cases hc
      simp only [iE] at he
      obtain ⟨e1, rfl, rfl⟩ := v1_some he
      have key : opR C.P (evA C.gl env) (.load t a) h = some v := by
        simp only [opR, compX_ev h2]
        unfold loadC at e1
        split at e1
        · rename_i hx
          split at e1
          · rename_i hid
            split at e1
            · rename_i hes
              simp only [hx, hid, hes, compRD_ok h1]
              exact e1
            · cases e1
          · cases e1
        · rename_i hx
          simp only [hx, compRD_ok h1]
          exact e1
        · cases e1
      simp only [opE, opP, key]
    · cases hc
  case lookup t m k ok =>
    simp only [compI] at hc
    split at hc
    · rename_i kt et m' k' h1 h2 h3
      split at hc
      · rename_i q z h4 h5
        cases hc
        simp only [iE] at he
        obtain ⟨e1, rfl, rfl⟩ := v1_some he
        have key : opR C.P (evA C.gl env) (.lookup t m k ok) h = some v := by
          simp only [opR, compX_ev h2, compX_ev h3, h1]
          unfold lookupC at e1
          split at e1
          · rename_i hk
            rw [if_pos (keyC_ok h4 hk)]
            split at e1
            · rename_i hx; simp only [hx, h5]; exact e1
            · rename_i hx
              split at e1
              · rename_i hid
                split at e1
                · rename_i hf; simp only [hx, hid, hf]; exact e1
                · rename_i hf; simp only [hx, hid, hf, h5]; exact e1
                · cases e1
              · cases e1
            · cases e1
          · cases e1
        simp only [opE, opP, key]
      · cases hc
    · cases hc
  case alloc t =>
    simp only [compI, Option.map_eq_some_iff] at hc
    obtain ⟨z, h1, rfl⟩ := hc
    simp only [iE] at he
    cases he
    simp only [opE, opP, opR, opN, h1]
  case box t x =>
    simp only [compI, Option.map_eq_some_iff] at hc
    obtain ⟨y, h1, rfl⟩ := hc
    simp only [iE] at he
    split at he
    · rename_i h2
      cases he
      simp only [opE, opP, opR, opN, compX_ev h1, h2, if_true]
    · cases he
  case buildSlice t len ps =>
    simp only [compI] at hc
    split at hc
    · rename_i e l h1 h2
      split at hc
      · rename_i sz z h3 h4
        split at hc
        · rename_i h5
          cases hc
          simp only [iE] at he
          split at he
          · rename_i es h6
            cases he
            simp only [opE, opP, opR, opN, h1, h3, h4, h5, and_self, if_true]
            rw [compPs_ev h2, h6]
            rfl
          · cases he
        · cases hc
      · cases hc
    · cases hc
  case makeMap t r =>
    simp only [compI] at hc
    split at hc
    · rename_i q r' h1 h2
      cases hc
      simp only [iE] at he
      cases r with
      | none =>
        simp only [compO1] at h2
        cases h2
        simp only [Option.map_none] at he
        cases he
        simp only [opE, opP, opR, opN]
      | some x =>
        simp only [compO1, Option.map_eq_some_iff] at h2
        obtain ⟨y, h3, rfl⟩ := h2
        simp only [Option.map_some] at he
        generalize hv : y.ev C.gl env = vy at *
        cases vy <;> simp only at he <;> try (cases he; done)
        cases he
        simp only [opE, opP, opR, opN, compX_ev h3, hv, h1]
    · cases hc
  case makeSlice t l c =>
    simp only [compI] at hc
    split at hc
    · rename_i e l' c' h1 h2 h3
      split at hc
      · rename_i sz z by_ h4 h5 h6
        split at hc
        · rename_i h7
          cases hc
          simp only [iE] at he
          split at he
          · rename_i hl hcv
            split at he
            · rename_i hle
              cases he
              simp only [opE, opP, opR, opN, compX_ev h2, compX_ev h3, hl, hcv, h1, h4, h5, h6]
              rw [if_pos ⟨h7.1, h7.2.1, hle.1, hle.2.1, hle.2.2, h7.2.2⟩]
            · cases he
          · cases he
        · cases hc
      · cases hc
    · cases hc
  case store t a x =>
    simp only [compI] at hc
    split at hc
    · rename_i sz a' x' h1 h2 h3
      cases hc
      simp only [iE] at he
      obtain ⟨w, e1, rfl, rfl, rfl⟩ := w1_some he
      have key : opS C.P (evA C.gl env) (.store t a x) h = some w := by
        simp only [opS, compX_ev h2, compX_ev h3]
        unfold storeC at e1
        split at e1
        · rename_i hx
          split at e1
          · rename_i hid
            split at e1
            · rename_i hes
              split at e1
              · rename_i hcnd
                simp only [hx, hid, hes, writeAt, h1, Option.some.injEq, hcnd, and_self, if_true]
                simpa using e1
              · cases e1
            · cases e1
          · cases e1
        · cases e1
      simp only [opE, key, Option.map_some]
    · cases hc
  case mapUpdate t m k x =>
    simp only [compI] at hc
    split at hc
    · rename_i kt et m' k' x' h1 h2 h3 h4
      simp only [Option.map_eq_some_iff] at hc
      obtain ⟨q, h5, rfl⟩ := hc
      simp only [iE] at he
      obtain ⟨w, e1, rfl, rfl, rfl⟩ := w1_some he
      have key : mapUpdA C.P t (evA C.gl env m) (evA C.gl env k) (evA C.gl env x) h = some w := by
        rw [compX_ev h2, compX_ev h3, compX_ev h4]
        unfold mapUpdC at e1
        split at e1
        · rename_i hx
          split at e1
          · rename_i hk
            split at e1
            · rename_i hid
              split at e1
              · rename_i hf; simp only [mapUpdA, h1, hx, keyC_ok h5 hk, if_true, hid, hf]; exact e1
              · rename_i hf; simp only [mapUpdA, h1, hx, keyC_ok h5 hk, if_true, hid, hf]; exact e1
              · cases e1
            · cases e1
          · cases e1
        · cases e1
      simp only [opE, key, Option.map_some]
    · cases hc
  case call c =>
    obtain ⟨callee, args, ats⟩ := c
    cases callee with
    | value f =>
      simp only [compI] at hc
      split at hc
      · rename_i g
        simp only [Option.map_eq_some_iff] at hc
        obtain ⟨l, h1, rfl⟩ := hc
        simp only [iE] at he
        simp only [opE, evA, compXs_ev h1, List.append_nil, he, Option.map_some]
      · split at hc
        · rename_i f' l h1 h2
          cases hc
          simp only [iE] at he
          split at he
          · rename_i g caps hf
            simp only [opE, compX_ev h1, hf, compXs_ev h2, he, Option.map_some]
          · cases he
        · cases hc
    | invoke r m => simp [compI] at hc
    | builtin b =>
      cases b
      case append =>
        simp only [compI] at hc
        split at hc
        · rename_i st xt s x h1 h2
          split at hc
          · rename_i e xd h3 h4
            split at hc
            · rename_i sz z by_ h5 h6 h7
              split at hc
              · rename_i h8
                cases hc
                simp only [iE] at he
                have hats : ats = #[st, xt] := by rw [← Array.toArray_toList (xs := ats), h1]
                have hargs : ∃ o1 o2, args = #[o1, o2] ∧ compX o1 = some s ∧ compX o2 = some x := by
                  rw [← Array.toArray_toList (xs := args)]
                  generalize args.toList = al at h2
                  cases al with
                  | nil => simp [compXs] at h2
                  | cons o1 r =>
                    cases r with
                    | nil => simp only [compXs] at h2; cases c1 : compX o1 <;> simp [c1] at h2
                    | cons o2 r =>
                      cases r with
                      | nil =>
                        simp only [compXs] at h2
                        cases c1 : compX o1 <;> cases c2 : compX o2 <;> simp [c1, c2] at h2
                        obtain ⟨rfl, rfl⟩ := h2
                        exact ⟨o1, o2, rfl, c1, c2⟩
                      | cons o3 r =>
                        simp only [compXs] at h2
                        cases c1 : compX o1 <;> cases c2 : compX o2 <;> cases c3 : compX o3 <;> cases c4 : compXs r <;> simp [c1, c2, c3, c4] at h2
                obtain ⟨o1, o2, rfl, c1, c2⟩ := hargs
                subst hats
                simp only [opE, List.getElem?_toArray, List.getElem?_cons_zero, List.getElem?_cons_succ, compX_ev c1, compX_ev c2, appendC_ok h3 h4 h5 h6 h7 h8, he, Option.map_some]
              · cases hc
            · cases hc
          · cases hc
        · cases hc
      case len =>
        simp only [compI] at hc
        split at hc
        · rename_i t x h1 h2
          have hats : ats = #[t] := by rw [← Array.toArray_toList (xs := ats), h1]
          have hargs : ∃ o1, args = #[o1] ∧ compX o1 = some x := by
            rw [← Array.toArray_toList (xs := args)]
            generalize args.toList = al at h2
            cases al with
            | nil => simp [compXs] at h2
            | cons o1 r =>
              cases r with
              | nil =>
                simp only [compXs] at h2
                cases c1 : compX o1 <;> simp [c1] at h2
                subst h2
                exact ⟨o1, rfl, c1⟩
              | cons o2 r =>
                simp only [compXs] at h2
                cases c1 : compX o1 <;> cases c2 : compX o2 <;> cases c3 : compXs r <;> simp [c1, c2, c3] at h2
          obtain ⟨o1, rfl, c1⟩ := hargs
          subst hats
          split at hc
          · rename_i hs
            cases hc
            simp only [iE] at he
            obtain ⟨e1, rfl, rfl⟩ := v1_some he
            generalize hv : x.ev C.gl env = vx at *
            cases vx <;> simp only [lenC] at e1 <;> try (cases e1; done)
            refine opE_P ?_
            simp only [opP, List.getElem?_toArray, List.getElem?_cons_zero, compX_ev c1, hv, hs, if_true]
            exact e1
          · split at hc
            · rename_i hs
              cases hc
              simp only [iE] at he
              obtain ⟨e1, rfl, rfl⟩ := v1_some he
              generalize hv : x.ev C.gl env = vx at *
              cases vx <;> simp only [lenC] at e1 <;> try (cases e1; done)
              all_goals
                refine opE_P ?_
                simp only [opP, List.getElem?_toArray, List.getElem?_cons_zero, compX_ev c1, hv, hs, if_true]
                exact e1
            · split at hc
              · rename_i hs
                cases hc
                simp only [iE] at he
                obtain ⟨e1, rfl, rfl⟩ := v1_some he
                generalize hv : x.ev C.gl env = vx at *
                cases vx <;> simp only [lenC] at e1 <;> try (cases e1; done)
                · split at e1
                  · rename_i hid
                    simp only [opE, opP, opR, List.getElem?_toArray, List.getElem?_cons_zero, compX_ev c1, hv, hid, hs, if_true]
                    cases e1; rfl
                  · cases e1
                · refine opE_P ?_
                  simp only [opP, List.getElem?_toArray, List.getElem?_cons_zero, compX_ev c1, hv, hs, if_true]
                  exact e1
              · cases hc
        · cases hc
      case min =>
        simp only [compI, Option.map_eq_some_iff] at hc
        obtain ⟨l, h1, rfl⟩ := hc
        simp only [iE] at he
        obtain ⟨e1, rfl, rfl⟩ := v1_some he
        refine opE_P ?_
        simp only [opP, compXs_ev h1]
        exact e1
      case max =>
        simp only [compI, Option.map_eq_some_iff] at hc
        obtain ⟨l, h1, rfl⟩ := hc
        simp only [iE] at he
        obtain ⟨e1, rfl, rfl⟩ := v1_some he
        refine opE_P ?_
        simp only [opP, compXs_ev h1]
        exact e1
      all_goals (simp [compI] at hc)
  all_goals (simp [compI] at hc)
end Go.Pv
