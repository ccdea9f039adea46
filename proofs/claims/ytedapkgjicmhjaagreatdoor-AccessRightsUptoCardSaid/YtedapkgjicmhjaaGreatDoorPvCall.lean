/- A part of the proof that AccessRights returns true wherever its input is of bulk at most 1048576: what the functions that it reaches answer. No theorem of the claim stands here. -/
import Derived.Test.YtedapkgjicmhjaaGreatDoorPvHpE
namespace Go.Pv
open Go Go.RowKit
set_option linter.unusedSimpArgs false
set_option linter.unusedVariables false

/-- How an operation ends: never in a panic. -/
def Ends (P : Program) (R : Value → World → Prop) : Result Next → Prop
  | .ok (.value v) w => R v w
  | .ok .skip w => R undef w
  | .ok (.enter f args) w => Calls P f args w fun e w' => ∃ v, e = .returned v ∧ R v w'
  | .ok (.row r args) w => Rows P r args w R
  | _ => False
theorem Ends.mono {P : Program} {R R' : Value → World → Prop} {r : Result Next} (h : Ends P R r) (hr : ∀ v w, R v w → R' v w) : Ends P R' r := by
  unfold Ends at *
  split at h
  · exact hr _ _ h
  · exact hr _ _ h
  · exact Calls.mono h fun e w' ⟨v, e1, h1⟩ => ⟨v, e1, hr _ _ h1⟩
  · exact Rows.mono h hr
  · exact h.elim
theorem Ends.wp {P : Program} {R : Value → World → Prop} {o : Oper} {a : Act} {w : World} {next : Act → World → Prop} {Q : Exit → Act → World → Prop} (h : Ends P R ((execOp a.eval o).run P w))
    (hr : ∀ v w, R v w → next (a.put o.dst v) w) : o.wp P a w next Q := by
  unfold Oper.wp
  generalize (execOp a.eval o).run P w = r at *
  unfold Ends at h
  split at h
  · exact hr _ _ h
  · exact hr _ _ h
  · simp only [Oper.upon]
    refine Calls.mono h fun e w' ⟨v, e1, h1⟩ => ?_
    subst e1
    exact hr _ _ h1
  · exact Rows.mono h hr
  · exact h.elim

/-- The globals that the tables say. -/
def GlOK (gl : Nat → List AV) (im : Nat → Prop) (w : World) : Prop := ∀ g, V im w phi0 (.cptr (gl g)) (.pointer (some ⟨g, 0, none⟩))
theorem GlOK.grow {gl im w φ im' w' φ'} (h : GlOK gl im w) (g : Grow im w φ im' w' φ') : GlOK gl im' w' := fun i => g.V0 (h i)
theorem GlOK.mono {gl im w im' w'} (h : GlOK gl im w) (him : ∀ b, im b → im' b ∧ w'.heap[b]? = w.heap[b]?) : GlOK gl im' w' := fun i => (h i).mono (Phi.le_refl _) him

/-- F is what function f answers, at values that hold only memory that stays as it is. -/
def PS (P : Program) (gl : Nat → List AV) (f : FuncId) (F : List AV → Option AV) : Prop :=
  ∀ args v, F args = some v → ∀ (im : Nat → Prop) (w : World) (vals : List Value), (∀ b, im b → b < w.heap.size) → GlOK gl im w → VL im w phi0 args vals →
    Ends P (fun u w' => ∃ im' : Nat → Prop, Below w.heap.size w w' ∧ (∀ b, im b → im' b) ∧ (∀ b, im' b → im b ∨ (w.heap.size ≤ b ∧ b < w'.heap.size)) ∧ V im' w' phi0 v u) ((callFunc f vals.toArray).run P w)

/-- T is what function f does to the heap. -/
def IS (P : Program) (gl : Nat → List AV) (f : FuncId) (T : List AV → Nat → Hp → Option (AV × List (Nat × AO) × Nat)) : Prop :=
  ∀ args n h v ws n', T args n h = some (v, ws, n') → n ≤ n' ∧ ∀ (im : Nat → Prop) (w : World) (φ : Phi) (vals : List Value), Rel im w φ h → ((∀ id, n ≤ id → id < n' → φ id = none) → GlOK gl im w → VL im w φ args vals →
    Ends P (fun u w' => ∃ im' φ', Out im w φ n n' (updW h ws) v im' w' φ' u) ((callFunc f vals.toArray).run P w))

structure TabOK (C : Ctx) : Prop where
  pure : ∀ f F, C.TP f = some F → PS C.P C.gl f F
  imp : ∀ f, IS C.P C.gl f (C.TI f)

section
variable {P : Program} {im : Nat → Prop} {w : World} {φ : Phi} {h : Hp}

theorem VL.of_aggL {cs : List AV} {v : Value} (h : V im w φ (.agg cs) v) : ∃ vals, v = .agg vals ∧ VL im w φ cs vals.toList := by
  cases h with
  | agg _ vals hs hv => exact ⟨vals, rfl, ⟨by simpa using hs, fun i hi => by have := hv i hi; simpa [List.getD_eq_getElem?_getD] using this⟩⟩
theorem V.of_list {cs : List AV} {vals : List Value} (h : VL im w φ cs vals) : V im w φ (.agg cs) (.agg vals.toArray) :=
  .agg cs vals.toArray (by simpa using h.1) fun i hi => by simpa using h.2 i hi
theorem V.of_listT {cs : List AV} {vals : List Value} (h : VL im w φ cs vals) : V im w φ (.tup cs) (.tuple vals.toArray) :=
  .tup cs vals.toArray (by simpa using h.1) fun i hi => by simpa using h.2 i hi

/-! ### arguments seen as they are -/
theorem snap_one (d : Nat) (x x' : AV) (ids : List Nat) (hs : snap h d x = some (x', ids)) : x'.one = x.one := by
  cases d with
  | zero => simp [snap] at hs
  | succ d =>
    cases x <;> simp only [snap] at hs
    case arr id off len cap sz loose =>
      split at hs
      · split at hs
        · simp only [Option.map_eq_some_iff] at hs
          obtain ⟨⟨a, b⟩, _, e⟩ := hs
          cases e; rfl
        · cases hs
      · cases hs
    all_goals first | (cases hs; done) | (cases hs; rfl) | (simp only [Option.map_eq_some_iff] at hs; obtain ⟨⟨a, b⟩, _, e⟩ := hs; cases e; rfl)

def SnapOK (im : Nat → Prop) (w : World) (φ : Phi) (h : Hp) (d : Nat) : Prop :=
  ∀ x x' ids v, snap h d x = some (x', ids) → V im w φ x v → ∀ J : Nat → Prop, (∀ b, im b → J b) → (∀ id ∈ ids, ∀ m, φ id = some m → J m.blk) → V J w phi0 x' v
def SnapLOK (im : Nat → Prop) (w : World) (φ : Phi) (h : Hp) (d : Nat) : Prop :=
  ∀ xs xs' ids, snapL h d xs = some (xs', ids) → xs'.length = xs.length ∧ (∀ i, i < xs.length → (xs'.getD i .no).one = (xs.getD i .no).one) ∧ ∀ vs, VL im w φ xs vs → ∀ J : Nat → Prop, (∀ b, im b → J b) → (∀ id ∈ ids, ∀ m, φ id = some m → J m.blk) → VL J w phi0 xs' vs
def SnapEOK (im : Nat → Prop) (w : World) (φ : Phi) (h : Hp) (d : Nat) : Prop :=
  ∀ es es' ids, snapE h d es = some (es', ids) → es'.length = es.length ∧ ∀ i, i < es.length → (es'.getD i []).length = (es.getD i []).length ∧
    (∀ o, o < (es.getD i []).length → ((es'.getD i []).getD o .no).one = ((es.getD i []).getD o .no).one) ∧
    ∀ vs, VL im w φ (es.getD i []) vs → ∀ J : Nat → Prop, (∀ b, im b → J b) → (∀ id ∈ ids, ∀ m, φ id = some m → J m.blk) → VL J w phi0 (es'.getD i []) vs

theorem snapL_ok {d : Nat} (hp : SnapOK im w φ h d) : SnapLOK im w φ h d := by
  intro xs
  induction xs with
  | nil => intro xs' ids hs; simp only [snapL, snapLf] at hs; cases hs; exact ⟨rfl, fun i hi => by simp at hi, fun vs hv J _ _ => ⟨hv.1, fun i hi => by simp at hi⟩⟩
  | cons x r ih =>
    intro xs' ids hs
    simp only [snapL, snapLf] at hs
    split at hs
    · rename_i v' a r' b h1 h2
      cases hs
      obtain ⟨i1, i2, i3⟩ := ih _ _ h2
      refine ⟨by simp [i1], fun i hi => ?_, fun vs hv J hJ hids => ?_⟩
      · cases i with
        | zero => simpa using snap_one d _ _ _ h1
        | succ i => simpa using i2 i (by simpa using hi)
      · cases vs with
        | nil => have := hv.1; simp at this
        | cons u us =>
          exact .cons (hp _ _ _ _ h1 hv.head J hJ fun id hid => hids id (by simp [hid])) (i3 us hv.tail J hJ fun id hid => hids id (by simp [hid]))
    · cases hs

theorem snapE_ok {d : Nat} (hp : SnapLOK im w φ h d) : SnapEOK im w φ h d := by
  intro xs
  induction xs with
  | nil => intro xs' ids hs; simp only [snapE, snapEf] at hs; cases hs; exact ⟨rfl, fun i hi => by simp at hi⟩
  | cons x r ih =>
    intro xs' ids hs
    simp only [snapE, snapEf] at hs
    split at hs
    · rename_i v' a r' b h1 h2
      cases hs
      obtain ⟨i1, i2⟩ := ih _ _ h2
      obtain ⟨p1, p2, p3⟩ := hp _ _ _ h1
      refine ⟨by simp [i1], fun i hi => ?_⟩
      cases i with
      | zero =>
        refine ⟨by simpa using p1, by simpa using p2, fun vs hv J hJ hids => ?_⟩
        exact p3 vs hv J hJ fun id hid => hids id (by simp [hid])
      | succ i =>
        obtain ⟨q1, q2, q3⟩ := i2 i (by simpa using hi)
        refine ⟨by simpa using q1, by simpa using q2, fun vs hv J hJ hids => ?_⟩
        exact q3 vs (by simpa using hv) J hJ fun id hid => hids id (by simp [hid])
    · cases hs

theorem snap_ok (hR : Rel im w φ h) : ∀ d, SnapOK im w φ h d := by
  intro d
  induction d with
  | zero => intro x x' ids v hs; simp [snap] at hs
  | succ d ih =>
    have hL : SnapLOK im w φ h d := snapL_ok ih
    have hE : SnapEOK im w φ h d := snapE_ok hL
    intro x x' ids v hs hV J hJ hids
    cases x <;> simp only [snap] at hs
    case bool b => cases hs; cases hV; exact .bool b
    case int k n => cases hs; cases hV; exact .int k n
    case str s => cases hs; cases hV; exact .str s
    case nilp => cases hs; cases hV; exact .nilp
    case nils => cases hs; cases hV; exact .nils
    case nilm => cases hs; cases hV; exact .nilm
    case nilf => cases hs; cases hV; exact .nilf
    case nili => cases hs; cases hV; exact .nili
    case lst sz es f =>
      cases hs; cases hV with
      | lst _ _ _ a cap vs h1 h2 h3 h4 h4o h5 h6 => exact .lst sz es f a cap vs (fun e => hJ _ (h1 e)) h2 h3 (fun i o hi ho => (h4 i o hi ho).mono (Phi.le_refl _) fun b hb => ⟨hJ b hb, rfl⟩) h4o h5 h6
    case cptr c =>
      cases hs; cases hV with
      | cptr _ a vs h1 h2 h3 h4 => exact .cptr c a vs (fun e => hJ _ (h1 e)) h2 (fun o ho => (h3 o ho).mono (Phi.le_refl _) fun b hb => ⟨hJ b hb, rfl⟩) h4
    case agg cs =>
      simp only [Option.map_eq_some_iff] at hs
      obtain ⟨⟨cs', ids'⟩, h1, e⟩ := hs
      cases e
      obtain ⟨vals, rfl, hv⟩ := VL.of_aggL hV
      exact V.of_list ((hL _ _ _ h1).2.2 _ hv J hJ hids)
    case tup cs =>
      simp only [Option.map_eq_some_iff] at hs
      obtain ⟨⟨cs', ids'⟩, h1, e⟩ := hs
      cases e
      cases hV with
      | tup _ vals hs hv =>
        have : VL im w φ cs vals.toList := ⟨by simpa using hs, fun i hi => by have := hv i hi; simpa [List.getD_eq_getElem?_getD] using this⟩
        exact V.of_listT ((hL _ _ _ h1).2.2 _ this J hJ hids)
    case fn f cs =>
      simp only [Option.map_eq_some_iff] at hs
      obtain ⟨⟨cs', ids'⟩, h1, e⟩ := hs
      cases e
      cases hV with
      | fn _ _ vals hs hv =>
        have hl : VL im w φ cs vals.toList := ⟨by simpa using hs, fun i hi => by have := hv i hi; simpa [List.getD_eq_getElem?_getD] using this⟩
        have q := (hL _ _ _ h1).2.2 _ hl J hJ hids
        exact .fn f cs' vals (by simpa using q.1) fun i hi => by simpa [List.getD_eq_getElem?_getD] using q.2 i hi
    case iface t y =>
      simp only [Option.map_eq_some_iff] at hs
      obtain ⟨⟨y', ids'⟩, h1, e⟩ := hs
      cases e
      cases hV with
      | iface _ _ u hu => exact .iface t _ _ (ih _ _ _ _ h1 hu J hJ hids)
    case arr id off len cap sz loose =>
      split at hs
      · rename_i es fr hid
        split at hs
        · rename_i hle
          simp only [Option.map_eq_some_iff] at hs
          obtain ⟨⟨es', ids'⟩, h1, e⟩ := hs
          cases e
          cases hV with
          | arr _ _ _ _ _ _ m c k0 k1 k2 k3 k4 k5 =>
            have hO := hR.obj id m k0
            rw [hid] at hO
            obtain ⟨c0, ty, frz, b1, b2, b3, b4, b5, b6, b7, b8⟩ := hO
            obtain ⟨e1, e2⟩ := hE _ _ _ h1
            have hlen : ((es.drop off).take len).length = len := by simp; omega
            have hget : ∀ i, i < len → ((es.drop off).take len).getD i [] = es.getD (off + i) [] := fun i hi => by
              simp [List.getD_eq_getElem?_getD, List.getElem?_take, hi]
            have hJm : J m.blk := hids id (by simp) m k0
            have hl' : es'.length = len := e1.trans hlen
            have hsz : ∀ i, i < len → (es'.getD i []).length = sz := fun i hi => by
              have := (e2 i (by omega)).1
              rw [this, hget i hi, b4 _ (by omega), k1]
            have hVL : ∀ i, i < len → VL im w φ (((es.drop off).take len).getD i []) ((List.range sz).map fun o => c0.getD ((off + i) * sz + o) undef) := fun i hi => by
              rw [hget i hi]
              refine ⟨by rw [b4 _ (by omega), k1]; simp, fun o ho => ?_⟩
              rw [b4 _ (by omega), k1] at ho
              have := (b5 (off + i) o (by omega) (by omega)).1
              rw [k1] at this
              simpa [List.getD_eq_getElem?_getD, ho] using this
            have hlt : ∀ i o, i < len → o < sz → (off + i) * sz + o < c0.size := fun i o hi ho => by
              rw [b2]
              rw [k1] at b3
              have := mul_add_lt (i := off + i) (n := es.length) (show off + i < es.length by omega) ho
              omega
            have := V.lst (im := J) (w := w) (φ := phi0) sz es' (!loose && decide (cap = len)) ⟨m.blk, off * sz, none⟩ c (fun i o => c0.getD ((off + i) * sz + o) undef) (fun _ => hJm) (fun i hi => hsz i (by omega))
              (fun i o hi ho => by
                rw [add_plain, ← Nat.add_assoc, ← Nat.add_mul]
                exact cell_of_block b1 (hlt i o (by omega) ho))
              (fun i o hi ho => by
                have q := (e2 i (by omega)).2.2 _ (hVL i (by omega)) J hJ fun id' hid' => hids id' (by simp [hid'])
                have := q.2 o (by rw [hsz i (by omega)]; exact ho)
                simpa [List.getD_eq_getElem?_getD, ho] using this)
              (fun i o hi ho => by
                have q := (e2 i (by omega)).2.1 o (by rw [hget i (by omega), b4 _ (by omega), k1]; exact ho)
                rw [q, hget i (by omega)]
                exact (b5 (off + i) o (by omega) (by omega)).2)
              (by omega) (fun hf => by
                simp only [Bool.and_eq_true, Bool.not_eq_true', decide_eq_true_eq] at hf
                have := k4 hf.1
                omega)
            rwa [hl'] at this
        · cases hs
      · cases hs
    all_goals cases hs

theorem snapL_ok' (hR : Rel im w φ h) {d : Nat} {xs xs' : List AV} {ids : List Nat} (hs : snapL h d xs = some (xs', ids)) {vs : List Value} (hv : VL im w φ xs vs) {J : Nat → Prop} (hJ : ∀ b, im b → J b)
    (hids : ∀ id ∈ ids, ∀ m, φ id = some m → J m.blk) : VL J w phi0 xs' vs := (snapL_ok (snap_ok hR _) _ _ _ hs).2.2 _ hv J hJ hids

/-! ### the ids of a seen argument are rows -/
def isRow : AO → Bool
  | .row .. => true
  | _ => false
theorem rows_L {f : AV → Option (AV × List Nat)} (hf : ∀ x x' ids, f x = some (x', ids) → ∀ id ∈ ids, isRow (h id) = true) : ∀ xs xs' ids, snapLf f xs = some (xs', ids) → ∀ id ∈ ids, isRow (h id) = true := by
  intro xs
  induction xs with
  | nil => intro xs' ids hs; simp only [snapLf] at hs; cases hs; intro id hid; simp at hid
  | cons x r ih2 =>
    intro xs' ids hs
    simp only [snapLf] at hs
    split at hs
    · rename_i v' a r' b q1 q2
      cases hs
      intro id hid
      rcases List.mem_append.1 hid with q | q
      · exact hf _ _ _ q1 id q
      · exact ih2 _ _ q2 id q
    · cases hs
theorem rows_E {f : AV → Option (AV × List Nat)} (hf : ∀ x x' ids, f x = some (x', ids) → ∀ id ∈ ids, isRow (h id) = true) : ∀ xs xs' ids, snapEf f xs = some (xs', ids) → ∀ id ∈ ids, isRow (h id) = true := by
  intro xs
  induction xs with
  | nil => intro xs' ids hs; simp only [snapEf] at hs; cases hs; intro id hid; simp at hid
  | cons x r ih2 =>
    intro xs' ids hs
    simp only [snapEf] at hs
    split at hs
    · rename_i v' a r' b q1 q2
      cases hs
      intro id hid
      rcases List.mem_append.1 hid with q | q
      · exact rows_L hf _ _ _ q1 id q
      · exact ih2 _ _ q2 id q
    · cases hs
theorem snap_rows1 : ∀ d, ∀ x x' ids, snap h d x = some (x', ids) → ∀ id ∈ ids, isRow (h id) = true := by
  intro d
  induction d with
  | zero => intro x x' ids hs; simp [snap] at hs
  | succ d ih =>
    intro x x' ids hs
    cases x <;> simp only [snap] at hs
    case arr id off len cap sz loose =>
      split at hs
      · rename_i es fr hid
        split at hs
        · simp only [Option.map_eq_some_iff] at hs
          obtain ⟨⟨a, b⟩, h1, e⟩ := hs
          cases e
          intro i hi
          rcases List.mem_cons.1 hi with rfl | hi
          · rw [hid]; rfl
          · exact rows_E ih _ _ _ h1 i hi
        · cases hs
      · cases hs
    case agg cs =>
      simp only [Option.map_eq_some_iff] at hs
      obtain ⟨⟨a, b⟩, h1, e⟩ := hs
      cases e
      exact rows_L ih _ _ _ h1
    case tup cs =>
      simp only [Option.map_eq_some_iff] at hs
      obtain ⟨⟨a, b⟩, h1, e⟩ := hs
      cases e
      exact rows_L ih _ _ _ h1
    case fn f cs =>
      simp only [Option.map_eq_some_iff] at hs
      obtain ⟨⟨a, b⟩, h1, e⟩ := hs
      cases e
      exact rows_L ih _ _ _ h1
    case iface t y =>
      simp only [Option.map_eq_some_iff] at hs
      obtain ⟨⟨a, b⟩, h1, e⟩ := hs
      cases e
      exact ih _ _ _ h1
    all_goals (cases hs; try (intro id hid; simp at hid))
theorem snap_rows (d : Nat) : (∀ x x' ids, snap h d x = some (x', ids) → ∀ id ∈ ids, isRow (h id) = true) ∧ (∀ xs xs' ids, snapL h d xs = some (xs', ids) → ∀ id ∈ ids, isRow (h id) = true) ∧
    (∀ es es' ids, snapE h d es = some (es', ids) → ∀ id ∈ ids, isRow (h id) = true) := ⟨snap_rows1 d, rows_L (snap_rows1 d), rows_E (snap_rows1 d)⟩

/-! ### freezing -/
theorem freezeW_get (h0 : Hp) : ∀ (ids : List Nat) (h : Hp) (j : Nat), updW h (freezeW h0 ids) j = if j ∈ ids then frz1 (h0 j) else h j := by
  intro ids
  induction ids with
  | nil => intro h j; simp [updW, freezeW]
  | cons id r ih =>
    intro h j
    simp only [freezeW, List.map_cons, updW]
    rw [← freezeW, ih]
    by_cases h1 : j ∈ r
    · simp [h1]
    · by_cases h2 : j = id
      · subst h2; simp [h1, upd]
      · simp [h1, h2, upd]

def Fz (im : Nat → Prop) (φ : Phi) (ids : List Nat) : Nat → Prop := fun b => im b ∨ ∃ id ∈ ids, ∃ m, φ id = some m ∧ m.blk = b

theorem Rel.freeze (hR : Rel im w φ h) {ids : List Nat} (hr : ∀ id ∈ ids, isRow (h id) = true) : Rel (Fz im φ ids) w φ (updW h (freezeW h ids)) := by
  have hg := freezeW_get h ids h
  have hle : ∀ b, im b → Fz im φ ids b ∧ w.heap[b]? = w.heap[b]? := fun b hb => ⟨.inl hb, rfl⟩
  have hdead : ∀ j, updW h (freezeW h ids) j = .dead ↔ h j = .dead := fun j => by
    rw [hg]
    split
    · rename_i hj
      have := hr j hj
      cases e : h j <;> simp [frz1, e, isRow] at this ⊢
    · exact Iff.rfl
  refine ⟨fun b hb => ?_, hR.lt, fun id m hm => ?_, fun id id' m m' hm hm' e => ?_⟩
  · rcases hb with hb | ⟨id, _, m, hm, e⟩
    · exact hR.imlt b hb
    · rw [← e]; exact hR.lt id m hm
  · have hO := hR.obj id m hm
    show ObjOK _ w φ m (updW h (freezeW h ids) id)
    rw [hg]
    split
    · rename_i hj
      have hrow := hr id hj
      cases e : h id with
      | row es fr =>
        rw [e] at hO
        obtain ⟨c, ty, frz, b1, b2, b3, b4, b5, b6, b7, b8⟩ := hO
        exact ⟨c, ty, frz, b1, b2, b3, b4, fun i o hi ho => ⟨(b5 i o hi ho).1.mono (Phi.le_refl _) hle, (b5 i o hi ho).2⟩, b6, fun _ => .inr ⟨id, hj, m, hm, rfl⟩, fun q => by cases q⟩
      | map es cl => rw [e] at hrow; cases hrow
      | iter a b c d => rw [e] at hrow; cases hrow
      | dead => rw [e] at hrow; cases hrow
    · rename_i hj
      by_cases hd : h id = .dead
      · rw [hd]; trivial
      · refine hO.mono (Phi.le_refl _) hle rfl (fun q => ?_)
        rcases q with q | ⟨id', hid', m', hm', e'⟩
        · exact q
        · rcases hR.inj id id' m m' hm hm' e'.symm with q | q | q
          · subst q; exact absurd hid' hj
          · exact absurd q hd
          · have := hr id' hid'; rw [q] at this; cases this
  · rw [hdead, hdead]; exact hR.inj id id' m m' hm hm' e
theorem Rel.freeze_grow (hR : Rel im w φ h) (ids : List Nat) : Grow im w φ (Fz im φ ids) w φ :=
  ⟨rfl, rfl, rfl, Nat.le_refl _, Phi.le_refl _, fun _ hb => .inl hb, fun _ _ => rfl, fun _ _ _ => rfl, fun id m hm => .inr ⟨id, m, hm, rfl⟩, fun b hb => by
    rcases hb with hb | ⟨id, _, m, hm, e⟩
    · exact .inl hb
    · exact .inr (.inr ⟨id, m, hm, e⟩)⟩

/-- What lies below stays, and new blocks may be told to stay. -/
theorem Rel.below_im {w' : World} (r : Rel im w φ h) (b : Below w.heap.size w w') {im' : Nat → Prop} (h1 : ∀ b, im b → im' b) (h2 : ∀ b, im' b → im b ∨ (w.heap.size ≤ b ∧ b < w'.heap.size)) : Rel im' w' φ h where
  imlt := fun x hx => (h2 x hx).elim (fun q => Nat.lt_of_lt_of_le (r.imlt x q) b.size) (fun q => q.2)
  lt := fun id m hm => Nat.lt_of_lt_of_le (r.lt id m hm) b.size
  obj := fun id m hm => (r.obj id m hm).mono (Phi.le_refl _) (fun x hx => ⟨h1 x hx, b.block x (r.imlt x hx)⟩) (b.block _ (r.lt id m hm)) (fun q => (h2 _ q).elim (fun q => q) (fun q => by have := r.lt id m hm; omega))
  inj := r.inj
theorem Rel.grow_below_im {w' : World} (r : Rel im w φ h) (b : Below w.heap.size w w') {im' : Nat → Prop} (h1 : ∀ b, im b → im' b) (h2 : ∀ b, im' b → im b ∨ (w.heap.size ≤ b ∧ b < w'.heap.size)) : Grow im w φ im' w' φ where
  os := b.os
  tape := b.tape
  output := b.output
  size := b.size
  phi := Phi.le_refl _
  imle := h1
  imk := fun x hx => b.block x (r.imlt x hx)
  keep := fun x hx _ => b.block x hx
  img := fun id m hm => .inr ⟨id, m, hm, rfl⟩
  imn := fun x hx => (h2 x hx).elim .inl (fun q => .inr (.inl q.1))

theorem flat1_V {im' : Nat → Prop} {w' : World} {φ' : Phi} {x : AV} {v : Value} (hf : flat1 x = true) (hV : V im w φ x v) : V im' w' φ' x v := by
  cases hV <;> simp [flat1] at hf
  · exact .bool _
  · exact .int _ _
  · exact .str _
  · exact .nilp
  · exact .nils
  · exact .nilm
  · exact .nilf
  · exact .nili
theorem flat_VL {im' : Nat → Prop} {w' : World} {φ' : Phi} {xs : List AV} (hf : xs.all flat1 = true) {n : Nat → Value} (hV : ∀ i, i < xs.length → V im w φ (xs.getD i .no) (n i)) : ∀ i, i < xs.length → V im' w' φ' (xs.getD i .no) (n i) := fun i hi => by
  refine flat1_V ?_ (hV i hi)
  have := List.all_eq_true.1 hf _ (List.getElem_mem hi)
  simpa [List.getD_eq_getElem?_getD, hi] using this
theorem flat_V {im' : Nat → Prop} {w' : World} {φ' : Phi} {x : AV} {v : Value} (hf : flatV x = true) (hV : V im w φ x v) : V im' w' φ' x v := by
  cases x with
  | tup xs => cases hV with | tup _ vals hs hv => exact .tup xs vals hs (flat_VL (by simpa [flatV] using hf) hv)
  | agg xs => cases hV with | agg _ vals hs hv => exact .agg xs vals hs (flat_VL (by simpa [flatV] using hf) hv)
  | _ => exact flat1_V (by simpa [flatV] using hf) hV
end
end Go.Pv
