/- A part of the proof that AccessRights returns true wherever its input is of bulk at most 1048576: what the functions that it reaches answer. No theorem of the claim stands here. -/
import Derived.Test.YtedapkgjicmhjaaGreatDoorPvOpA
import Derived.Laws.StructEq
set_option linter.unusedSimpArgs false
set_option linter.unusedVariables false
namespace Go.Pv
open Go Go.RowKit

section
variable {P : Program} {im : Nat → Prop} {w : World} {φ : Phi}

theorem V.int_inv {k n v} (h : V im w φ (.int k n) v) : v = .int k n := by cases h; rfl
theorem V.bool_inv {b v} (h : V im w φ (.bool b) v) : v = .bool b := by cases h; rfl
theorem V.str_inv {s v} (h : V im w φ (.str s) v) : v = .string ⟨s.toArray⟩ := by cases h; rfl

theorem append_mk (a b : List UInt8) : (⟨a.toArray⟩ : ByteArray) ++ ⟨b.toArray⟩ = ⟨(a ++ b).toArray⟩ := by
  apply ByteArray.ext
  simp
theorem size_mk (a : List UInt8) : (⟨a.toArray⟩ : ByteArray).size = a.length := by simp [ByteArray.size]

theorem guard_int (op : BinOp) (t : TypeId) (px py : Operand) (k k' : IntKind) (a b : Int) : (eqGuard op t px py (.int k a) (.int k' b)).run P w = .ok () w := by
  cases op <;> simp [eqGuard]
theorem guard_str (op : BinOp) (t : TypeId) (px py : Operand) (a b : ByteArray) : (eqGuard op t px py (.string a) (.string b)).run P w = .ok () w := by
  cases op <;> simp [eqGuard]

theorem intA_sim {op k a b z t} (px py : Operand) (h : intA op k a b = some z) :
    ∃ v, (do eqGuard op t px py (.int k a) (.int k b); binOp op t (.int k a) (.int k b) : Sem Value).run P w = .ok v w ∧ V im w φ z v := by
  simp only [Sem.run_bind, guard_int, Result.andThen_ok]
  cases op <;> simp only [intA] at h
  case quo =>
    split at h
    · cases h
    · cases h
      rename_i hb
      exact ⟨_, by simp [binOp, Op.intDiv, hb], .int _ _⟩
  case rem =>
    split at h
    · cases h
    · cases h
      rename_i hb
      exact ⟨_, by simp [binOp, Op.intDiv, hb], .int _ _⟩
  all_goals first
    | (cases h; done)
    | (cases h; refine ⟨.int _ _, ?_, .int _ _⟩; simp only [binOp, ne_eq, not_true, if_false, Op.intArith, Op.intBits]; rfl)
    | (cases h; refine ⟨.bool _, ?_, .bool _⟩; simp only [binOp, ne_eq, not_true, if_false, Op.intCmp]; rfl)

theorem shiftA_sim {op k k' a b z t} (px py : Operand) (h : shiftA op k a b = some z) :
    ∃ v, (do eqGuard op t px py (.int k a) (.int k' b); binOp op t (.int k a) (.int k' b) : Sem Value).run P w = .ok v w ∧ V im w φ z v := by
  unfold shiftA at h
  split at h
  · cases h
  · rename_i hb
    split at h
    · cases h
      exact ⟨_, by simp [eqGuard, binOp, Op.shift, hb], .int _ _⟩
    · cases h
      exact ⟨_, by simp [eqGuard, binOp, Op.shift, hb], .int _ _⟩
    · cases h

theorem strA_sim {op a b z t} (px py : Operand) (h : strA op a b = some z) :
    ∃ v, (do eqGuard op t px py (.string ⟨a.toArray⟩) (.string ⟨b.toArray⟩); binOp op t (.string ⟨a.toArray⟩) (.string ⟨b.toArray⟩) : Sem Value).run P w = .ok v w ∧ V im w φ z v := by
  simp only [Sem.run_bind, guard_str, Result.andThen_ok]
  cases op <;> simp only [strA] at h
  case add =>
    split at h
    · rename_i hl
      cases h
      refine ⟨.string ⟨(a ++ b).toArray⟩, ?_, .str _⟩
      have hm : ¬ (IntKind.i64.max < ((a.length + b.length : Nat) : Int)) := by
        have : IntKind.i64.max = 9223372036854775807 := rfl
        rw [this]; omega
      simp only [binOp, Op.stringOp, size_mk, append_mk, gt_iff_lt, hm, if_false]
      rfl
    · cases h
  all_goals first
    | (cases h; done)
    | (cases h; refine ⟨.bool _, ?_, .bool _⟩; simp only [binOp, Op.stringOp, ByteArray.toList_mk]; rfl)

theorem kind1_under {t : TypeId} {k : KD} (h : tKind1 P t = some k) : (k = .b ∧ P.underlying t = some .bool) ∨ (k = .i ∧ ∃ q, P.underlying t = some (.int q)) ∨ (k = .s ∧ P.underlying t = some .string) := by
  unfold tKind1 at h
  split at h <;> cases h <;> simp_all

theorem eq1_run {t : TypeId} {x y : AV} {vx vy : Value} {b : Bool} (d : Nat) (hk : tKind1 P t = kindOf x) (h : eq1 x y = some b) (hx : V im w φ x vx) (hy : V im w φ y vy) :
    (Op.equalIn (d + 1) t vx vy).run P w = .ok b w := by
  unfold eq1 at h
  split at h
  · cases h
    rw [hx.bool_inv, hy.bool_inv]
    rcases kind1_under hk with ⟨e, u⟩ | ⟨e, _⟩ | ⟨e, _⟩ <;> cases e
    exact run_equalIn_bool' w d t _ _ u
  · split at h
    · cases h
      rename_i e
      subst e
      rw [hx.int_inv, hy.int_inv]
      rcases kind1_under hk with ⟨e, _⟩ | ⟨e, q, u⟩ | ⟨e, _⟩ <;> cases e
      exact run_equalIn_int w d t _ _ _ _ u
    · cases h
  · cases h
    rw [hx.str_inv, hy.str_inv]
    rcases kind1_under hk with ⟨e, _⟩ | ⟨e, _⟩ | ⟨e, u⟩ <;> cases e
    rw [run_equalIn_string w d t _ _ u]
    simp
  · cases h

theorem kind1_agg {t : TypeId} {k : KD} (h : tKind1 P t = some k) : tIsAgg P t = some false := by
  rcases kind1_under h with ⟨_, u⟩ | ⟨_, q, u⟩ | ⟨_, u⟩ <;> simp [tIsAgg, u]

theorem eqFields_run (d : Nat) {xs ys : List AV} {vx vy : Array Value} (hx : VL im w φ xs vx.toList) (hy : VL im w φ ys vy.toList) :
    ∀ (fs : List Field) (k : Nat) (ks : List KD) (b : Bool), ((fs.zipIdx k).all fun (f, i) => f.name != "_" && f.offset == i) = true → fs.mapM (fun f => tKind1 P f.type) = some ks →
      fitL ks (xs.drop k) = true → eqL (xs.drop k) (ys.drop k) = some b → (Op.eqFields (d + 1) vx vy fs).run P w = .ok b w := by
  intro fs
  induction fs with
  | nil =>
    intro k ks b _ hm hf he
    simp at hm
    subst hm
    cases hxd : xs.drop k with
    | nil =>
      rw [hxd] at he
      cases hyd : ys.drop k with
      | nil => rw [hyd] at he; simp [eqL] at he; subst he; simp [Op.eqFields]
      | cons => rw [hyd] at he; simp [eqL] at he
    | cons => rw [hxd] at hf; simp [fitL] at hf
  | cons f fs ih =>
    intro k ks b ha hm hf he
    simp only [List.zipIdx_cons, List.all_cons, Bool.and_eq_true, bne_iff_ne, ne_eq, beq_iff_eq] at ha
    obtain ⟨⟨hn, ho⟩, ha⟩ := ha
    simp only [List.mapM_cons, Option.bind_eq_bind, Option.pure_def, Option.bind_eq_some_iff] at hm
    obtain ⟨q, hq, qs, hqs, e⟩ := hm
    cases e
    cases hxd : xs.drop k with
    | nil => rw [hxd] at hf; simp [fitL] at hf
    | cons x xr =>
      cases hyd : ys.drop k with
      | nil => rw [hxd, hyd] at he; simp [eqL] at he
      | cons y yr =>
        rw [hxd] at hf
        simp only [fitL, Bool.and_eq_true, beq_iff_eq] at hf
        obtain ⟨hk, hf⟩ := hf
        rw [hxd, hyd] at he
        simp only [eqL] at he
        split at he
        · rename_i p r h1 h2
          cases he
          have hxr : xs.drop (k + 1) = xr := by rw [← List.drop_drop, hxd]; rfl
          have hyr : ys.drop (k + 1) = yr := by rw [← List.drop_drop, hyd]; rfl
          obtain ⟨a, hra, hVa⟩ := part_sim (P := P) (t := f.type) hx (off := k) (x := x) (by simp [readAt, kind1_agg hq, hxd])
          obtain ⟨b, hrb, hVb⟩ := part_sim (P := P) (t := f.type) hy (off := k) (x := y) (by simp [readAt, kind1_agg hq, hyd])
          have hrec := ih (k + 1) qs r (by simpa using ha) hqs (by rw [hxr]; exact hf) (by rw [hxr, hyr]; exact h2)
          have hcmp := eq1_run (P := P) (t := f.type) d (by rw [hq, hk]) h1 hVa hVb
          simp only [Op.eqFields, ne_eq, hn, not_false_iff, if_true, Sem.run_bind, ho, hra, hrb, Result.andThen_ok, hcmp]
          cases p
          · simp
          · simp [hrec]
        · cases he

theorem kinds_under {t : TypeId} {ks : List KD} (h : tKinds P t = some ks) : ∃ fs, P.underlying t = some (.struct fs) ∧ P.stoodInHeld t = false ∧ P.eqGuardType P.depth t = false ∧
    (fs.toList.zipIdx.all fun (f, i) => f.name != "_" && f.offset == i) = true ∧ fs.toList.mapM (fun f => tKind1 P f.type) = some ks := by
  unfold tKinds at h
  split at h
  · rename_i fs hu
    split at h
    · rename_i hc
      simp only [Bool.and_eq_true, Bool.not_eq_true'] at hc
      exact ⟨fs, hu, hc.1.1, hc.1.2, hc.2, h⟩
    · cases h
  · cases h

/-- Structs of scalars. -/
theorem eqStruct_run {t : TypeId} {ks : List KD} (h : tKinds P t = some ks) {xs ys : List AV} {vx vy : Array Value} (hx : VL im w φ xs vx.toList) (hy : VL im w φ ys vy.toList) (hf : fitL ks xs = true) {b : Bool} (he : eqL xs ys = some b) (d : Nat) :
    (Op.equalIn (d + 2) t (.agg vx) (.agg vy)).run P w = .ok b w := by
  obtain ⟨fs, hu, hp, _, hz, hm⟩ := kinds_under h
  have e : P.fieldsOf t = fs := by simp [Program.fieldsOf, hu]
  rw [run_equalIn_agg w (d + 1) t vx vy (by rw [e]; exact hu) hp, e]
  exact eqFields_run d hx hy fs.toList 0 ks b (by simpa using hz) hm (by simpa using hf) (by simpa using he)

section nils
variable {t : TypeId} (d : Nat)
theorem run_pn {e : TypeId} (u : P.underlying t = some (.pointer e)) (b : Option Addr) : (Op.equalIn (d + 1) t (.pointer none) (.pointer b)).run P w = .ok b.isNone w := by
  cases b <;> simp [Op.equalIn, run_under u]
theorem run_ps {e : TypeId} (u : P.underlying t = some (.pointer e)) (a : Addr) : (Op.equalIn (d + 1) t (.pointer (some a)) (.pointer none)).run P w = .ok false w := by
  simp [Op.equalIn, run_under u]
theorem run_sn {e : TypeId} (u : P.underlying t = some (.slice e)) (b : Option Addr) (n c n' c' : Nat) : (Op.equalIn (d + 1) t (.slice none n c) (.slice b n' c')).run P w = .ok b.isNone w := by
  simp [Op.equalIn, run_under u]
theorem run_ss {e : TypeId} (u : P.underlying t = some (.slice e)) (a : Addr) (n c n' c' : Nat) : (Op.equalIn (d + 1) t (.slice (some a) n c) (.slice none n' c')).run P w = .ok false w := by
  simp [Op.equalIn, run_under u]
theorem run_mn {k e : TypeId} (u : P.underlying t = some (.map k e)) (b : Option Nat) : (Op.equalIn (d + 1) t (.map none) (.map b)).run P w = .ok b.isNone w := by
  simp [Op.equalIn, run_under u]
theorem run_ms {k e : TypeId} (u : P.underlying t = some (.map k e)) (a : Nat) : (Op.equalIn (d + 1) t (.map (some a)) (.map none)).run P w = .ok false w := by
  simp [Op.equalIn, run_under u]
theorem run_fnn {x y z} (u : P.underlying t = some (.func x y z)) : (Op.equalIn (d + 1) t .nilFunc .nilFunc).run P w = .ok true w := by
  simp [Op.equalIn, run_under u]
theorem run_fns {x y z} (u : P.underlying t = some (.func x y z)) (f : Fn) (a b : Array Value) : (Op.equalIn (d + 1) t .nilFunc (.func f a b)).run P w = .ok false w := by
  simp [Op.equalIn, run_under u]
theorem run_fsn {x y z} (u : P.underlying t = some (.func x y z)) (f : Fn) (a b : Array Value) : (Op.equalIn (d + 1) t (.func f a b) .nilFunc).run P w = .ok false w := by
  simp [Op.equalIn, run_under u]
end nils

/-- The test ahead of '==', and that '==' is asked at all. -/
def Asks (P : Program) (w : World) (t : TypeId) (px py : Operand) (vx vy : Value) (b : Bool) : Prop :=
  (∀ op, (eqGuard op t px py vx vy).run P w = .ok () w) ∧ (Op.equal t vx vy).run P w = .ok b w ∧ binOp .eql t vx vy = (do pure (.bool (← Op.equal t vx vy))) ∧ binOp .neq t vx vy = (do pure (.bool (!(← Op.equal t vx vy))))

/-- '==' on what is no number and no string. -/
theorem eqA_sim {t : TypeId} {x y : AV} {vx vy : Value} {b : Bool} (h : eqA P t x y = some b) (hx : V im w φ x vx) (hy : V im w φ y vy) (px py : Operand) :
    Asks P w t px py vx vy b := by
  unfold eqA at h
  split at h
  · -- bools
    split at h
    · rename_i u
      cases h
      rw [hx.bool_inv, hy.bool_inv]
      exact ⟨fun op => by cases op <;> simp [eqGuard], run_equalIn_bool' w 9999 t _ _ u, rfl, rfl⟩
    · cases h
  · -- structs
    split at h
    · rename_i ks hk
      split at h
      · rename_i hf
        obtain ⟨va, rfl, hva⟩ := VL.of_agg hx
        obtain ⟨vb, rfl, hvb⟩ := VL.of_agg hy
        obtain ⟨fs, hu, hp, hg, hz, hm⟩ := kinds_under hk
        exact ⟨fun op => run_eqGuard_agg w op t px py va vb hg, eqStruct_run hk hva hvb hf.1 h 9998, rfl, rfl⟩
      · cases h
    · cases h
  all_goals try (cases h; done)
  all_goals
    split at h
    · rename_i u
      split at h <;> first
        | (cases h; done)
        | (cases h
           cases hx <;> cases hy <;> refine ⟨fun op => by cases op <;> simp [eqGuard], ?_, rfl, rfl⟩ <;> first
             | exact run_pn 9999 u _
             | exact run_ps 9999 u _
             | exact run_sn 9999 u _ _ _ _ _
             | exact run_ss 9999 u _ _ _ _ _
             | exact run_mn 9999 u _
             | exact run_ms 9999 u _
             | exact run_fnn 9999 u
             | exact run_fns 9999 u _ _ _
             | exact run_fsn 9999 u _ _ _)
    · cases h

theorem bin_sim {op : BinOp} {t : TypeId} {x y z : AV} {vx vy : Value} (h : binA P op t x y = some z) (hx : V im w φ x vx) (hy : V im w φ y vy) (px py : Operand) :
    ∃ v, (do eqGuard op t px py vx vy; binOp op t vx vy : Sem Value).run P w = .ok v w ∧ V im w φ z v := by
  unfold binA binG at h
  split at h
  · rw [hx.int_inv, hy.int_inv]; exact shiftA_sim px py h
  · rw [hx.int_inv, hy.int_inv]; exact shiftA_sim px py h
  · split at h
    · rename_i e; subst e
      rw [hx.int_inv, hy.int_inv]; exact intA_sim px py h
    · cases h
  · rw [hx.str_inv, hy.str_inv]; exact strA_sim px py h
  · cases e : eqA P t x y with
    | none => simp [e] at h
    | some b =>
      simp [e] at h
      subst h
      obtain ⟨h1, h2, h3, _⟩ := eqA_sim e hx hy px py
      exact ⟨.bool b, by simp [h1, h3, h2], .bool b⟩
  · cases e : eqA P t x y with
    | none => simp [e] at h
    | some b =>
      simp [e] at h
      subst h
      obtain ⟨h1, h2, _, h3⟩ := eqA_sim e hx hy px py
      exact ⟨.bool (!b), by simp [h1, h3, h2], .bool (!b)⟩
  · cases h

theorem un_sim {op : UnOp} {x z : AV} {vx : Value} (h : unA op x = some z) (hx : V im w φ x vx) : ∃ v, (Op.unary op vx).run P w = .ok v w ∧ V im w φ z v := by
  unfold unA at h
  split at h
  · cases h; rw [hx.int_inv]; exact ⟨_, rfl, .int _ _⟩
  · cases h; rw [hx.bool_inv]; exact ⟨_, rfl, .bool _⟩
  · cases h

end
end Go.Pv
