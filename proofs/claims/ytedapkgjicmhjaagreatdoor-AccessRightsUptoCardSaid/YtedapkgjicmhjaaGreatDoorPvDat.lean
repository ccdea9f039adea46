/- A part of the proof that AccessRights returns true wherever its input is of bulk at most 1048576: what the functions that it reaches answer. No theorem of the claim stands here. -/
import Derived.Test.YtedapkgjicmhjaaGreatDoorPvIw
namespace Go.Pv
open Go
set_option linter.unusedSimpArgs false
set_option linter.unusedVariables false

@[simp] theorem initE_get (l : List AV) (j : Nat) : initE l j = l.getD j .no := rfl
@[simp] theorem v1_s {n v} : v1 n (some v) = some (v, [], n) := rfl
@[simp] theorem w1_s {n w} : w1 n (some w) = some (.no, [w], n) := rfl

/-! ### results -/
def consO (v : AV) : Option (List AV) → Option (List AV)
  | some vs => some (v :: vs)
  | none => none
@[simp] theorem consO_s {v vs} : consO v (some vs) = some (v :: vs) := rfl
def consOO : Option AV → Option (List AV) → Option (List AV)
  | some v, o => consO v o
  | none, _ => none
@[simp] theorem consOO_s {v o} : consOO (some v) o = consO v o := rfl
@[simp] theorem resXs_nil {env h} : resXs env h [] = some [] := rfl
@[simp] theorem resXs_t {env h t r} : resXs env h (.t t :: r) = consO (env t) (resXs env h r) := by
  simp only [resXs, resX]; cases resXs env h r <;> rfl
@[simp] theorem resXs_c {env h t q r} : resXs env h (.c t q :: r) = consOO (loadC1 q h (env t)) (resXs env h r) := by
  simp only [resXs, resX]; cases loadC1 q h (env t) <;> cases resXs env h r <;> rfl
@[simp] theorem packV_1 {v} : packV [v] = v := rfl
@[simp] theorem packV_0 : packV [] = .tup [] := rfl
@[simp] theorem packV_2 {a b r} : packV (a :: b :: r) = .tup (a :: b :: r) := rfl

/-! ### values that hold no own memory: they are seen as they are -/
/-- Values that are as they are seen, wherever. -/
inductive Fix1 : AV → Prop
  | bool (b) : Fix1 (.bool b)
  | int (k i) : Fix1 (.int k i)
  | str (s) : Fix1 (.str s)
  | nilp : Fix1 .nilp
  | nils : Fix1 .nils
  | nilm : Fix1 .nilm
  | nilf : Fix1 .nilf
  | nili : Fix1 .nili
  | lst (sz es f) : Fix1 (.lst sz es f)
  | cptr (c) : Fix1 (.cptr c)
theorem Fix1.snap {v : AV} (hv : Fix1 v) (h : Hp) (d : Nat) : snap h (d + 1) v = some (v, []) := by cases hv <;> rfl
theorem snapL_fix {h : Hp} {d : Nat} : ∀ {l : List AV}, (∀ v ∈ l, Fix1 v) → snapLf (snap h (d + 1)) l = some (l, []) := by
  intro l
  induction l with
  | nil => intro _; rfl
  | cons a r ih =>
    intro hl
    simp only [snapLf, (hl a (by simp)).snap h d, ih (fun v hv => hl v (by simp [hv])), List.append_nil]
/-- Values of arguments and results that hold no own memory. -/
inductive Fix : AV → Prop
  | one {v} (h : Fix1 v) : Fix v
  | agg {cs} (h : ∀ v ∈ cs, Fix1 v) : Fix (.agg cs)
  | fn {f cs} (h : ∀ v ∈ cs, Fix1 v) : Fix (.fn f cs)
  | fnA {f cs} (h : ∀ v ∈ cs, Fix1 v ∨ ∃ xs, v = .agg xs ∧ ∀ x ∈ xs, Fix1 x) : Fix (.fn f cs)
theorem snap_aggE (h : Hp) (d : Nat) (cs : List AV) : snap h (d + 1) (.agg cs) = (snapLf (snap h d) cs).map fun (cs', ids) => (.agg cs', ids) := rfl
theorem snap_tupE (h : Hp) (d : Nat) (cs : List AV) : snap h (d + 1) (.tup cs) = (snapLf (snap h d) cs).map fun (cs', ids) => (.tup cs', ids) := rfl
theorem snap_fnE (h : Hp) (d : Nat) (f : FuncId) (cs : List AV) : snap h (d + 1) (.fn f cs) = (snapLf (snap h d) cs).map fun (cs', ids) => (.fn f cs', ids) := rfl
theorem snap_agg1 {h : Hp} {d : Nat} {xs : List AV} (hx : ∀ x ∈ xs, Fix1 x) : snap h (d + 2) (.agg xs) = some (.agg xs, []) := by
  rw [snap_aggE, snapL_fix hx]; rfl
theorem Fix.snap {v : AV} (hv : Fix v) (h : Hp) (d : Nat) : snap h (d + 3) v = some (v, []) := by
  cases hv with
  | one hv => exact hv.snap h _
  | agg hv => exact snap_agg1 hv
  | fn hv => rw [snap_fnE, snapL_fix hv]; rfl
  | fnA hv =>
    rename_i f cs
    have : ∀ {l : List AV}, (∀ v ∈ l, Fix1 v ∨ ∃ xs, v = .agg xs ∧ ∀ x ∈ xs, Fix1 x) → snapLf (Pv.snap h (d + 2)) l = some (l, []) := by
      intro l
      induction l with
      | nil => intro _; rfl
      | cons a r ih =>
        intro hl
        have ha : Pv.snap h (d + 2) a = some (a, []) := by
          rcases hl a (by simp) with q | ⟨xs, rfl, q⟩
          · exact q.snap h _
          · exact snap_agg1 q
        simp only [snapLf, ha, ih (fun v hv => hl v (by simp [hv])), List.append_nil]
    rw [snap_fnE, this hv]; rfl
theorem snapLF {h : Hp} {d : Nat} : ∀ {l : List AV}, (∀ v ∈ l, Fix v) → snapLf (snap h (d + 3)) l = some (l, []) := by
  intro l
  induction l with
  | nil => intro _; rfl
  | cons a r ih =>
    intro hl
    simp only [snapLf, (hl a (by simp)).snap h d, ih (fun v hv => hl v (by simp [hv])), List.append_nil]
attribute [simp] Fix1.bool Fix1.int Fix1.str Fix1.nilp Fix1.nils Fix1.nilm Fix1.nilf Fix1.nili Fix1.lst Fix1.cptr
@[simp] theorem Fix_agg {cs} : Fix (.agg cs) = ∀ v ∈ cs, Fix1 v := by
  apply propext; constructor
  · intro h; cases h with
    | one h => cases h
    | agg h => exact h
  · exact .agg
theorem Fix_bool {b} : Fix (.bool b) := .one (.bool b)
theorem Fix_int {k i} : Fix (.int k i) := .one (.int k i)
theorem Fix_str {s} : Fix (.str s) := .one (.str s)
theorem Fix_nils : Fix .nils := .one .nils
theorem Fix_lst {a b c} : Fix (.lst a b c) := .one (.lst a b c)
theorem Fix_cptr {a} : Fix (.cptr a) := .one (.cptr a)
theorem Fix_nilf : Fix .nilf := .one .nilf
theorem Fix_fn {f cs} (h : ∀ v ∈ cs, Fix1 v) : Fix (.fn f cs) := .fn h
theorem Fix_fn0 {f} : Fix (.fn f []) := .fn (by simp)
attribute [simp] Fix_bool Fix_int Fix_str Fix_nils Fix_lst Fix_cptr Fix_nilf Fix_fn0
@[simp] theorem snap_bool {h b} : snap h snapD (.bool b) = some (.bool b, []) := rfl
@[simp] theorem snap_int {h k i} : snap h snapD (.int k i) = some (.int k i, []) := rfl
@[simp] theorem snap_str {h s} : snap h snapD (.str s) = some (.str s, []) := rfl
@[simp] theorem snap_nils {h} : snap h snapD .nils = some (.nils, []) := rfl
@[simp] theorem snap_lst {h a b c} : snap h snapD (.lst a b c) = some (.lst a b c, []) := rfl
theorem snap_fix {h v} (hv : Fix v) : snap h snapD v = some (v, []) := hv.snap h 9
/-- A tuple of such. -/
theorem snap_tup {h l} (hl : ∀ v ∈ l, Fix v) : snap h snapD (.tup l) = some (.tup l, []) := by
  have : snapLf (snap h 11) l = some (l, []) := snapLF (d := 8) hl
  rw [snap_tupE, this]; rfl
@[simp] theorem snap_aggF {h l} (hl : ∀ v ∈ l, Fix1 v) : snap h snapD (.agg l) = some (.agg l, []) := snap_fix (.agg hl)

/-! ### calls -/
/-- A call of a pure function whose answer is known. -/
theorem callA_fix {C : Ctx} {dr : Bool} {f : FuncId} {F : List AV → Option AV} (hF : C.TP f = some F) {args : List AV} {n : Nat} {h : Hp} (ha : ∀ v ∈ args, Fix v) : callA C dr f args n h = v1 n (F args) := by
  unfold callA
  have : snapL h snapD args = some (args, []) := snapLF (d := 9) ha
  simp only [hF, this]
  cases F args <;> rfl
/-- The same with own arrays among the arguments: they are seen as they are now. -/
theorem callA_snap {C : Ctx} {dr : Bool} {f : FuncId} {F : List AV → Option AV} (hF : C.TP f = some F) {args args' : List AV} {ids : List Nat} {n : Nat} {h : Hp} (ha : snapL h snapD args = some (args', ids)) {v : AV} (hv : F args' = some v) (hfl : flatV v = true) : callA C dr f args n h = some (v, [], n) := by
  unfold callA
  simp only [hF, ha, hv, hfl, or_true, if_true]
theorem callA_freeze {C : Ctx} {f : FuncId} {F : List AV → Option AV} (hF : C.TP f = some F) {args args' : List AV} {ids : List Nat} {n : Nat} {h : Hp} (ha : snapL h snapD args = some (args', ids)) {v : AV} (hv : F args' = some v) :
    ∃ ws, callA C false f args n h = some (v, ws, n) ∧ (ws = [] ∨ ws = freezeW h ids) := by
  unfold callA
  simp only [hF, ha, hv]
  split
  · exact ⟨[], rfl, .inl rfl⟩
  · exact ⟨_, rfl, .inr rfl⟩
/-- A call of a function that writes. -/
theorem callA_imp {C : Ctx} {dr : Bool} {f : FuncId} (hF : C.TP f = none) {args : List AV} {n : Nat} {h : Hp} : callA C dr f args n h = C.TI f args n h := by
  unfold callA
  simp only [hF]

/-- What a call of a pure function reads: nothing, where its arguments hold no own memory. -/
theorem rdI_callF {C : Ctx} {env : Env} {h : Hp} {f : FuncId} {F : List AV → Option AV} {args : List X} (hF : C.TP f = some F) (ha : ∀ v ∈ mapX C.gl env args, Fix v) : rdI C env h (.callF f args) = some [] := by
  have : snapL h snapD (mapX C.gl env args) = some (mapX C.gl env args, []) := snapLF (d := 9) ha
  simp only [rdI, hF, this, Option.map_some]
/-! ### data in slices -/
def seqO {α β : Type} (d : α → Option β) : List α → Option (List β)
  | [] => some []
  | a :: r => match d a, seqO d r with
    | some x, some l => some (x :: l)
    | _, _ => none
theorem seqO_len {α β : Type} {d : α → Option β} : ∀ {es : List α} {l : List β}, seqO d es = some l → es.length = l.length := by
  intro es
  induction es with
  | nil => intro l h; cases h; rfl
  | cons a r ih =>
    intro l h
    simp only [seqO] at h
    split at h
    · rename_i x l' h1 h2; cases h; simp [ih h2]
    · cases h
theorem seqO_get {α β : Type} {d : α → Option β} : ∀ {es : List α} {l : List β}, seqO d es = some l → ∀ {i : Nat} (hi : i < l.length), ∃ e, es[i]? = some e ∧ d e = some l[i] := by
  intro es
  induction es with
  | nil => intro l h i hi; cases h; simp at hi
  | cons a r ih =>
    intro l h i hi
    simp only [seqO] at h
    split at h
    · rename_i x l' h1 h2
      cases h
      cases i with
      | zero => exact ⟨a, rfl, h1⟩
      | succ i => simpa using ih h2 (i := i) (by simpa using hi)
    · cases h
theorem seqO_take {α β : Type} {d : α → Option β} : ∀ {es : List α} {l : List β}, seqO d es = some l → ∀ (k : Nat), seqO d (es.take k) = some (l.take k) := by
  intro es
  induction es with
  | nil => intro l h k; cases h; simp [seqO]
  | cons a r ih =>
    intro l h k
    simp only [seqO] at h
    split at h
    · rename_i x l' h1 h2
      cases h
      cases k with
      | zero => simp [seqO]
      | succ k => simp [seqO, h1, ih h2 k]
    · cases h
theorem seqO_drop {α β : Type} {d : α → Option β} : ∀ {es : List α} {l : List β}, seqO d es = some l → ∀ (k : Nat), seqO d (es.drop k) = some (l.drop k) := by
  intro es
  induction es with
  | nil => intro l h k; cases h; simp [seqO]
  | cons a r ih =>
    intro l h k
    simp only [seqO] at h
    split at h
    · rename_i x l' h1 h2
      cases h
      cases k with
      | zero => simp [seqO, h1, h2]
      | succ k => simp [ih h2 k]
    · cases h
theorem seqO_app {α β : Type} {d : α → Option β} : ∀ {a b : List α} {x y : List β}, seqO d a = some x → seqO d b = some y → seqO d (a ++ b) = some (x ++ y) := by
  intro a
  induction a with
  | nil => intro b x y h k; cases h; simpa using k
  | cons e r ih =>
    intro b x y h k
    simp only [seqO] at h
    split at h
    · rename_i x' l' h1 h2
      cases h
      simp [seqO, h1, ih h2 k]
    · cases h
theorem seqO_map {α β : Type} {d : α → Option β} {f : β → α} (hf : ∀ x, d (f x) = some x) (l : List β) : seqO d (l.map f) = some l := by
  induction l with
  | nil => rfl
  | cons x r ih => simp [seqO, hf, ih]
/-- A slice of data. -/
def dSl {β : Type} (sz : Nat) (d : List AV → Option β) : AV → Option (List β)
  | .nils => some []
  | .lst sz' es _ => if sz' = sz then seqO d es else none
  | _ => none
section
variable {β : Type} {sz : Nat} {d : List AV → Option β} {x : AV} {l : List β}
theorem dSl_inv (h : dSl sz d x = some l) : (x = .nils ∧ l = []) ∨ ∃ es f, x = .lst sz es f ∧ seqO d es = some l := by
  unfold dSl at h
  split at h
  · cases h; exact .inl ⟨rfl, rfl⟩
  · split at h
    · rename_i q; subst q; exact .inr ⟨_, _, rfl, h⟩
    · cases h
  · cases h
theorem dSl_fix1 (h : dSl sz d x = some l) : Fix1 x := by
  rcases dSl_inv h with ⟨rfl, _⟩ | ⟨es, f, rfl, _⟩ <;> simp
theorem dSl_fix (h : dSl sz d x = some l) : Fix x := .one (dSl_fix1 h)
theorem dSl_one (h : dSl sz d x = some l) : x.one = true := by
  rcases dSl_inv h with ⟨rfl, _⟩ | ⟨es, f, rfl, _⟩ <;> rfl
theorem dSl_cells (h : dSl sz d x = some l) : x.cells = [x] := by
  rcases dSl_inv h with ⟨rfl, _⟩ | ⟨es, f, rfl, _⟩ <;> rfl
theorem dSl_len (h : dSl sz d x = some l) (hp : Hp) : lenC .sl hp x = some (.int .i64 l.length) := by
  rcases dSl_inv h with ⟨rfl, rfl⟩ | ⟨es, f, rfl, q⟩
  · rfl
  · simp [seqO_len q]
theorem dSl_at (h : dSl sz d x = some l) {i : Nat} (hi : i < l.length) : ∃ c, iaddrC (.sl sz) x (.int .i64 i) = some (.cptr c) ∧ d c = some l[i] := by
  rcases dSl_inv h with ⟨rfl, rfl⟩ | ⟨es, f, rfl, q⟩
  · simp at hi
  · obtain ⟨e, h1, h2⟩ := seqO_get q hi
    refine ⟨e, ?_, h2⟩
    have : i < es.length := by rw [seqO_len q]; exact hi
    have h3 : es[i] = e := by simpa [List.getElem?_eq_getElem this] using h1
    simp [iaddrC, this, h3]
theorem dSl_slice (h : dSl sz d x = some l) {lo hi : Nat} (h1 : lo ≤ hi) (h2 : hi ≤ l.length) : ∃ y, sliceC (.el sz) x (some (.int .i64 lo)) (some (.int .i64 hi)) none = some y ∧ dSl sz d y = some ((l.take hi).drop lo) := by
  rcases dSl_inv h with ⟨rfl, rfl⟩ | ⟨es, f, rfl, q⟩
  · simp at h2; subst h2; simp at h1; subst h1; exact ⟨.nils, by simp [sliceC], rfl⟩
  · refine ⟨_, by simp [sliceC, h1, seqO_len q, h2]; rfl, ?_⟩
    simp [dSl, seqO_drop (seqO_take q hi) lo]
theorem dSl_slice_lo (h : dSl sz d x = some l) {lo : Nat} (h1 : lo ≤ l.length) : ∃ y, sliceC (.el sz) x (some (.int .i64 lo)) none none = some y ∧ dSl sz d y = some (l.drop lo) := by
  rcases dSl_inv h with ⟨rfl, rfl⟩ | ⟨es, f, rfl, q⟩
  · simp at h1; subst h1; exact ⟨.nils, by simp [sliceC], rfl⟩
  · refine ⟨_, by simp [sliceC, h1, seqO_len q]; rfl, ?_⟩
    have : es.take l.length = es := by rw [← seqO_len q]; simp
    simp [dSl, this, seqO_drop q lo]
theorem dSl_slice_hi (h : dSl sz d x = some l) {hi : Nat} (h2 : hi ≤ l.length) : ∃ y, sliceC (.el sz) x none (some (.int .i64 hi)) none = some y ∧ dSl sz d y = some (l.take hi) := by
  rcases dSl_inv h with ⟨rfl, rfl⟩ | ⟨es, f, rfl, q⟩
  · simp at h2; subst h2; exact ⟨.nils, by simp [sliceC], rfl⟩
  · refine ⟨_, by simp [sliceC, seqO_len q, h2]; rfl, ?_⟩
    simp [dSl, seqO_take q hi]
end
def dInt : List AV → Option Int
  | [.int .i64 i] => some i
  | _ => none
def dStr : List AV → Option (List UInt8)
  | [.str s] => some s
  | _ => none
theorem dInt_inv {c i} (h : dInt c = some i) : c = [.int .i64 i] := by
  unfold dInt at h; split at h
  · cases h; rfl
  · cases h
theorem dStr_inv {c s} (h : dStr c = some s) : c = [.str s] := by
  unfold dStr at h; split at h
  · cases h; rfl
  · cases h
abbrev dInts := dSl 1 dInt
abbrev dStrs := dSl 1 dStr

/-! ### slices that grow -/
/-- A slice that this run has made by growth; m: ids from there on. -/
def Own1 (h : Hp) (m n sz : Nat) (v : AV) (es : List (List AV)) : Prop :=
  ∃ id, (m ≤ id ∧ id < n) ∧ v = .arr id 0 es.length es.length sz true ∧ h id = .row es false ∧ es ≠ []
/-- Such a slice, or nil. -/
def Own (h : Hp) (m n sz : Nat) (v : AV) (es : List (List AV)) : Prop := (v = .nils ∧ es = []) ∨ Own1 h m n sz v es
/-- Such a slice, or an empty one that was made. -/
def OwnZ (h : Hp) (m n sz : Nat) (v : AV) (es : List (List AV)) : Prop := (∃ id, (m ≤ id ∧ id < n) ∧ v = .arr id 0 0 0 sz false ∧ h id = .row [] false ∧ es = []) ∨ Own1 h m n sz v es
theorem Own.nil {h m n sz} : Own h m n sz .nils [] := .inl ⟨rfl, rfl⟩
theorem Own1.keep {h h' : Hp} {m n n' sz : Nat} {v : AV} {es : List (List AV)} (o : Own1 h m n sz v es) (hn : n ≤ n') (hh : ∀ j, m ≤ j → j < n → h' j = h j) : Own1 h' m n' sz v es := by
  obtain ⟨id, h1, h2, h3, h4⟩ := o
  exact ⟨id, by omega, h2, by rw [hh id h1.1 h1.2, h3], h4⟩
theorem Own.keep {h h' : Hp} {m n n' sz : Nat} {v : AV} {es : List (List AV)} (o : Own h m n sz v es) (hn : n ≤ n') (hh : ∀ j, m ≤ j → j < n → h' j = h j) : Own h' m n' sz v es :=
  o.imp id fun o => o.keep hn hh
theorem OwnZ.keep {h h' : Hp} {m n n' sz : Nat} {v : AV} {es : List (List AV)} (o : OwnZ h m n sz v es) (hn : n ≤ n') (hh : ∀ j, m ≤ j → j < n → h' j = h j) : OwnZ h' m n' sz v es := by
  rcases o with ⟨id, h1, h2, h3, h4⟩ | o
  · exact .inl ⟨id, by omega, h2, by rw [hh id h1.1 h1.2, h3], h4⟩
  · exact .inr (o.keep hn hh)
theorem Own.len {h hp : Hp} {m n sz : Nat} {v : AV} {es : List (List AV)} (o : Own h m n sz v es) : lenC .sl hp v = some (.int .i64 es.length) := by
  rcases o with ⟨rfl, rfl⟩ | ⟨id, h1, rfl, h3⟩ <;> rfl
theorem OwnZ.len {h hp : Hp} {m n sz : Nat} {v : AV} {es : List (List AV)} (o : OwnZ h m n sz v es) : lenC .sl hp v = some (.int .i64 es.length) := by
  rcases o with ⟨id, h1, rfl, h3, rfl⟩ | ⟨id, h1, rfl, h3⟩ <;> rfl
theorem Own.one {h : Hp} {m n sz : Nat} {v : AV} {es : List (List AV)} (o : Own h m n sz v es) : v.one = true := by
  rcases o with ⟨rfl, rfl⟩ | ⟨id, h1, rfl, h3⟩ <;> rfl
theorem Own.cells {h : Hp} {m n sz : Nat} {v : AV} {es : List (List AV)} (o : Own h m n sz v es) : v.cells = [v] := by
  rcases o with ⟨rfl, rfl⟩ | ⟨id, h1, rfl, h3⟩ <;> rfl
theorem Own.ids {h : Hp} {m n sz : Nat} {v : AV} {es : List (List AV)} (o : Own h m n sz v es) : ∃ l, ids1 v = l ∧ ∀ j ∈ l, m ≤ j ∧ j < n := by
  rcases o with ⟨rfl, rfl⟩ | ⟨id, h1, rfl, h3⟩
  · exact ⟨[], rfl, by simp⟩
  · exact ⟨[id], rfl, by simp [h1]⟩
/-- The ids that die when a slice grows. -/
def diesA : AV → Nat → Prop
  | .arr id _ _ _ _ true, j => j = id
  | _, _ => False
theorem Own.dies {h : Hp} {m n sz : Nat} {v : AV} {es : List (List AV)} (o : Own h m n sz v es) {j : Nat} (hj : j < m ∨ n ≤ j) : ¬ diesA v j := by
  rcases o with ⟨rfl, rfl⟩ | ⟨id, h1, rfl, h3⟩
  · exact fun q => q
  · simp only [diesA]; omega
theorem OwnZ.dies {h : Hp} {m n sz : Nat} {v : AV} {es : List (List AV)} (o : OwnZ h m n sz v es) {j : Nat} (hj : j < m ∨ n ≤ j) : ¬ diesA v j := by
  rcases o with ⟨id, h1, rfl, h3, rfl⟩ | ⟨id, h1, rfl, h3⟩
  · exact fun q => q
  · simp only [diesA]; omega
theorem grow1 {h : Hp} {sz m m' n : Nat} {v x : AV} {es new : List (List AV)} (o : Own1 h m m' sz v es) (hm : m' ≤ n) (hx : elsOf h sz x = some new) (hne : new ≠ []) (hl : es.length + new.length ≤ lenLim) :
    ∃ v' ws, appendC sz v x n h = some (v', ws, n + 1) ∧ Own1 (updW h ws) m (n + 1) sz v' (es ++ new) ∧ (∀ j, j < n → ¬ diesA v j → updW h ws j = h j) ∧ (∀ w ∈ ws, w.1 = n ∨ diesA v w.1) := by
  have hpos : 0 < new.length := List.length_pos_iff.2 hne
  obtain ⟨id, h1, rfl, h3, h4⟩ := o
  have hid : id ≠ n := by omega
  refine ⟨.arr n 0 (es.length + new.length) (es.length + new.length) sz true, [(n, .row (es ++ new) false), (id, .dead)], ?_, ⟨n, by omega, by simp, ?_, by simp [h4]⟩, fun j hj hne => ?_, by simp [diesA]⟩
  · unfold appendC
    rw [hx]
    cases new with
    | nil => exact absurd rfl hne
    | cons a b =>
      have : ¬ es.length + (a :: b).length ≤ es.length := by simp
      simp only [lenA, hl, if_true, h3, Nat.zero_add, Nat.le_refl, and_self, this, if_false]
  · simp [updW, upd, Ne.symm hid]
  · simp only [diesA] at hne
    simp only [updW_cons, updW_nil, upd_get, hne, if_false]
    rw [if_neg (by omega)]
/-- Growth by some elements. -/
theorem Own.append {h : Hp} {sz m m' n : Nat} {v x : AV} {es new : List (List AV)} (o : Own h m m' sz v es) (hmn : m ≤ n) (hm : m' ≤ n) (hx : elsOf h sz x = some new) (hne : new ≠ []) (hl : es.length + new.length ≤ lenLim) :
    ∃ v' ws, appendC sz v x n h = some (v', ws, n + 1) ∧ Own1 (updW h ws) m (n + 1) sz v' (es ++ new) ∧ (∀ j, j < n → ¬ diesA v j → updW h ws j = h j) ∧ (∀ w ∈ ws, w.1 = n ∨ diesA v w.1) := by
  rcases o with ⟨rfl, rfl⟩ | o
  · refine ⟨.arr n 0 new.length new.length sz true, [(n, .row new false)], ?_, ⟨n, by omega, by simp, by simp [updW, upd], by simpa using hne⟩, fun j hj _ => ?_, by simp⟩
    · unfold appendC
      rw [hx]
      cases new with
      | nil => exact absurd rfl hne
      | cons a b => simp only [List.length_nil, Nat.zero_add] at hl; simp only [lenA, Nat.zero_add, hl, if_true]
    · simp [updW, upd]; intro q; omega
  · exact grow1 o hm hx hne hl
theorem OwnZ.append {h : Hp} {sz m m' n : Nat} {v x : AV} {es new : List (List AV)} (o : OwnZ h m m' sz v es) (hmn : m ≤ n) (hm : m' ≤ n) (hx : elsOf h sz x = some new) (hne : new ≠ []) (hl : es.length + new.length ≤ lenLim) :
    ∃ v' ws, appendC sz v x n h = some (v', ws, n + 1) ∧ Own1 (updW h ws) m (n + 1) sz v' (es ++ new) ∧ (∀ j, j < n → ¬ diesA v j → updW h ws j = h j) ∧ (∀ w ∈ ws, w.1 = n ∨ diesA v w.1) := by
  have hpos : 0 < new.length := List.length_pos_iff.2 hne
  rcases o with ⟨id, h1, rfl, h3, rfl⟩ | o
  · refine ⟨.arr n 0 new.length new.length sz true, [(n, .row new false)], ?_, ⟨n, by omega, by simp, by simp [updW, upd], by simpa using hne⟩, fun j hj _ => ?_, by simp⟩
    · unfold appendC
      rw [hx]
      cases new with
      | nil => exact absurd rfl hne
      | cons a b =>
        simp only [List.length_nil, Nat.zero_add] at hl
        have : ¬ (a :: b).length ≤ 0 := by simp
        simp only [lenA, Nat.zero_add, hl, if_true, h3, List.length_nil, Nat.le_refl, and_self, this, if_false, Bool.false_eq_true, List.drop_nil, List.take_nil, List.nil_append]
    · simp [updW, upd]; intro q; omega
  · exact grow1 o hm hx hne hl
/-- How a slice that grew is seen. -/
def mkSl (sz : Nat) (es : List (List AV)) : AV := if es = [] then .nils else .lst sz es false
theorem snapE_fix {h : Hp} {d : Nat} : ∀ {es : List (List AV)}, (∀ e ∈ es, ∀ x ∈ e, Fix1 x) → snapEf (snap h (d + 1)) es = some (es, []) := by
  intro es
  induction es with
  | nil => intro _; rfl
  | cons e r ih =>
    intro hf
    simp only [snapEf, snapL_fix (hf e (by simp)), ih (fun e he => hf e (by simp [he])), List.append_nil]
theorem snap_arrE {h : Hp} {id len cap sz d : Nat} {loose : Bool} {es : List (List AV)} {fr : Bool} (hr : h id = .row es fr) (hl : es.length = len) (hf : ∀ e ∈ es, ∀ x ∈ e, Fix1 x) : snap h (d + 2) (.arr id 0 len cap sz loose) = some (.lst sz es (!loose && decide (cap = len)), [id]) := by
  have : snap h (d + 2) (.arr id 0 len cap sz loose) = (match h id with
    | .row es _ => if 0 + len ≤ es.length then (snapEf (snap h (d + 1)) ((es.drop 0).take len)).map fun (es', ids) => (.lst sz es' (!loose && decide (cap = len)), id :: ids) else none
    | _ => none) := rfl
  rw [this, hr]
  subst hl
  simp only [Nat.zero_add, Nat.le_refl, if_true, List.drop_zero, List.take_length, snapE_fix hf, Option.map_some]
theorem Own1.snap {h : Hp} {m n sz : Nat} {v : AV} {es : List (List AV)} (o : Own1 h m n sz v es) (hf : ∀ e ∈ es, ∀ x ∈ e, Fix1 x) (d : Nat) : ∃ ids, snap h (d + 2) v = some (.lst sz es false, ids) := by
  obtain ⟨id, h1, rfl, h3, h4⟩ := o
  exact ⟨[id], by rw [snap_arrE h3 rfl hf]; simp⟩
theorem Own.snap {h : Hp} {m n sz : Nat} {v : AV} {es : List (List AV)} (o : Own h m n sz v es) (hf : ∀ e ∈ es, ∀ x ∈ e, Fix1 x) (d : Nat) : ∃ ids, snap h (d + 2) v = some (mkSl sz es, ids) := by
  rcases o with ⟨rfl, rfl⟩ | o
  · exact ⟨[], rfl⟩
  · obtain ⟨ids, q⟩ := o.snap hf d
    obtain ⟨id, _, _, _, h4⟩ := o
    exact ⟨ids, by rw [q]; simp [mkSl, h4]⟩
/-- How a slice that was made empty is seen. -/
def mkSlZ (sz : Nat) (es : List (List AV)) : AV := if es = [] then .lst sz [] true else .lst sz es false
theorem OwnZ.snap {h : Hp} {m n sz : Nat} {v : AV} {es : List (List AV)} (o : OwnZ h m n sz v es) (hf : ∀ e ∈ es, ∀ x ∈ e, Fix1 x) (d : Nat) : ∃ ids, snap h (d + 2) v = some (mkSlZ sz es, ids) := by
  rcases o with ⟨id, h1, rfl, h3, rfl⟩ | o
  · exact ⟨[id], by rw [snap_arrE (len := 0) (es := []) h3 rfl (by simp)]; simp [mkSlZ]⟩
  · obtain ⟨ids, q⟩ := o.snap hf d
    obtain ⟨id, _, _, _, h4⟩ := o
    exact ⟨ids, by rw [q]; simp [mkSlZ, h4]⟩
theorem dSl_mkSlZ {β : Type} {sz : Nat} {d : List AV → Option β} {es : List (List AV)} {l : List β} (h : seqO d es = some l) : dSl sz d (mkSlZ sz es) = some l := by
  unfold mkSlZ
  split
  · rename_i q; subst q; cases h; simp [dSl, seqO]
  · simp [dSl, h]
@[simp] theorem elsOf_arr {h : Hp} {sz id off len cap sz' : Nat} {l : Bool} {es : List (List AV)} {fr : Bool} (hr : h id = .row es fr) (hs : sz' = sz) (hl : off + len ≤ es.length) : elsOf h sz (.arr id off len cap sz' l) = some ((es.drop off).take len) := by
  simp [elsOf, hr, hs, hl]
theorem dSl_mkSl {β : Type} {sz : Nat} {d : List AV → Option β} {es : List (List AV)} {l : List β} (h : seqO d es = some l) : dSl sz d (mkSl sz es) = some l := by
  unfold mkSl
  split
  · rename_i q; subst q; cases h; rfl
  · simp [dSl, h]
end Go.Pv
