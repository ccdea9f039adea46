/- A part of the proof that AccessRights returns true wherever its input is of bulk at most 1048576: what the functions that it reaches answer. No theorem of the claim stands here. -/
import Derived.Test.YtedapkgjicmhjaaGreatDoorSa
namespace Go.Pv.T
open Go Go.Pv
set_option linter.unusedSimpArgs false
set_option linter.unusedVariables false

/-! ### the group of a name -/
def slEls : AV → List (List AV)
  | .lst _ es _ => es
  | _ => []
def isNm (nm : List UInt8) : List AV → Bool
  | .str s :: _ => s == nm
  | _ => false
def zGroup : List AV := [.str [], .nils, .nils]
def z0 : Group := ⟨[], [], []⟩
def fnd (l : List Group) (nm : List UInt8) : Option Group := l.find? (fun g => g.name == nm)
def G_find : List AV → Option AV
  | [x, .str nm] => match dGroups x with
    | some l => if l.length ≤ LI then some (match (slEls x).find? (isNm nm) with
      | some c => .tup [.agg c, .bool true]
      | none => .tup [.agg zGroup, .bool false]) else none
    | none => none
  | _ => none
theorem dz : dGroup zGroup = some z0 := by simp [dGroup, zGroup, dSl, z0]
theorem find_seq (nm : List UInt8) : ∀ {es : List (List AV)} {l : List Group}, seqO dGroup es = some l →
    (fnd l nm = none ∧ es.find? (isNm nm) = none) ∨ ∃ g c, fnd l nm = some g ∧ es.find? (isNm nm) = some c ∧ dGroup c = some g := by
  intro es
  induction es with
  | nil => intro l h; cases h; exact .inl ⟨rfl, rfl⟩
  | cons e r ih =>
    intro l h
    simp only [seqO] at h
    split at h
    · rename_i g l' h1 h2
      cases h
      obtain ⟨u, gs, rfl, a1, a2, a3, a4⟩ := dGroup_inv h1
      by_cases hn : g.name == nm
      · exact .inr ⟨g, _, by simp [fnd, hn], by simp [isNm, hn], h1⟩
      · rcases ih h2 with ⟨q1, q2⟩ | ⟨g', c, q1, q2, q3⟩
        · exact .inl ⟨by simpa [fnd, hn] using q1, by simpa [isNm, hn] using q2⟩
        · exact .inr ⟨g', c, by simpa [fnd, hn] using q1, by simpa [isNm, hn] using q2, q3⟩
    · cases h
theorem G_find_of {x : AV} {l : List Group} (h : dGroups x = some l) (hl : l.length ≤ LI) (nm : List UInt8) : ∃ c, G_find [x, .str nm] = some (.tup [.agg c, .bool (fnd l nm).isSome]) ∧ dGroup c = some ((fnd l nm).getD z0) := by
  have : seqO dGroup (slEls x) = some l := by
    rcases dSl_inv h with ⟨rfl, rfl⟩ | ⟨es, f, rfl, q⟩
    · rfl
    · exact q
  rcases find_seq nm this with ⟨q1, q2⟩ | ⟨g, c, q1, q2, q3⟩
  · exact ⟨zGroup, by simp [G_find, h, hl, q1, q2], by simp [q1, dz]⟩
  · exact ⟨c, by simp [G_find, h, hl, q1, q2], by simp [q1, q3]⟩
theorem slEls_get {x : AV} {l : List Group} (h : dGroups x = some l) {i : Nat} {c : List AV} (hi : i < l.length) (h1 : iaddrC (.sl 3) x (.int .i64 i) = some (.cptr c)) : (slEls x)[i]? = some c := by
  rcases dSl_inv h with ⟨rfl, rfl⟩ | ⟨es, f, rfl, q⟩
  · simp at hi
  · have hi' : i < es.length := by rw [seqO_len q]; exact hi
    simp [hi'] at h1
    simp [slEls, hi', h1]
theorem find_first {α : Type} {p : α → Bool} {l : List α} {i : Nat} {c : α} (hc : l[i]? = some c) (h1 : p c = true) (h2 : ∀ j, j < i → ∀ x, l[j]? = some x → p x = false) : l.find? p = some c := by
  induction l generalizing i with
  | nil => simp at hc
  | cons a r ih =>
    cases i with
    | zero => simp at hc; subst hc; simp [h1]
    | succ i =>
      have := h2 0 (by omega) a (by simp)
      simp only [List.find?_cons, this]
      exact ih (by simpa using hc) fun j hj x hx => h2 (j + 1) (by omega) x (by simpa using hx)
theorem find_no {α : Type} {p : α → Bool} {l : List α} (h2 : ∀ j, j < l.length → ∀ x, l[j]? = some x → p x = false) : l.find? p = none := by
  rw [List.find?_eq_none]
  intro x hx
  obtain ⟨j, hj, rfl⟩ := List.mem_iff_getElem.1 hx
  simp [h2 j hj _ (List.getElem?_eq_getElem hj)]
theorem w_group_find {C : Ctx} {x : AV} {l : List Group} (nm : List UInt8) (ha : dGroups x = some l) (hl : l.length ≤ LI) :
    FnW C c_group_find r_group_find [x, .str nm] (match (slEls x).find? (isNm nm) with
      | some c => .tup [.agg c, .bool true]
      | none => .tup [.agg zGroup, .bool false]) := by
  unfold FnW c_group_find r_group_find
  have hel : (slEls x).length = l.length := by
    rcases dSl_inv ha with ⟨rfl, rfl⟩ | ⟨es, f, rfl, q⟩
    · rfl
    · exact seqO_len q
  generalize hv : (match (slEls x).find? (isNm nm) with
      | some c => AV.tup [.agg c, .bool true]
      | none => AV.tup [.agg zGroup, .bool false]) = v
  simp +contextual -implicitDefEqProofs [dSl_len ha]
  obtain ⟨J, hJ⟩ : ∃ J : Nat → Env → Nat → Hp → Prop, J = Scan [(1, .str nm), (4, .ptr 0 0 0), (8, x), (9, .int .i64 l.length)] [(0, .row [zGroup] false)] fun j => ∀ c, (slEls x)[j]? = some c → isNm nm c = false := ⟨_, rfl⟩
  refine Wk_scan l.length 10 0 J hl (Nat.zero_le _) (by simp) (hJ ▸ ⟨by simp, by simp [zGroup], Upto.zero⟩) ?_ ?_
  · intro i env n h _ hi hw ei hj
    rw [hJ] at hj
    obtain ⟨fe, fh, hp⟩ := hj
    simp only [FE_cons, FE_nil, FH_cons, FH_nil, and_true] at fe fh
    obtain ⟨fh1, fh2⟩ := fh
    obtain ⟨c, h1, h2⟩ := dSl_at ha hi
    have hsl := slEls_get ha hi h1
    have hfx := dGroup_fix h2
    obtain ⟨u, gs, rfl, a1, a2, a3, a4⟩ := dGroup_inv h2
    have hn0 : ¬ 0 = n := by omega
    simp +contextual -implicitDefEqProofs [ei, fe, fh1, hi, h1, hw, dSl_one a1, dSl_one a2]
    refine Ck_mk ?_ ?_ <;> intro hc
    · have hee : isNm nm [.str (l[i]).name, u, gs] = true := by simpa [isNm] using hc
      simp +contextual -implicitDefEqProofs [ei, fe, fh1, hn0, dSl_one a1, dSl_one a2, zGroup]
      rw [← hv, find_first hsl hee fun j hj x hx => hp j hj x hx, snap_tup (by intro y hy; simp at hy; rcases hy with rfl | rfl <;> simp <;> exact ⟨dSl_fix1 a1, dSl_fix1 a2⟩)]
      simp
    · have hee : isNm nm [.str (l[i]).name, u, gs] = false := by simpa [isNm] using hc
      simp +contextual -implicitDefEqProofs [ei, fe, hw]
      rw [hJ]
      exact ⟨by simp [fe], by simp [hn0, fh1], hp.succ fun c hc => by rw [hsl] at hc; cases hc; exact hee⟩
  · intro env n h ei hj
    rw [hJ] at hj
    obtain ⟨fe, fh, hp⟩ := hj
    simp only [FE_cons, FE_nil, FH_cons, FH_nil, and_true] at fe fh
    simp +contextual -implicitDefEqProofs [ei, fe, fh, zGroup, fillA]
    rw [← hv, find_no fun j hj x hx => hp j (hel ▸ hj) x hx, snap_tup (by intro y hy; simp at hy; rcases hy with rfl | rfl <;> simp)]
    simp [zGroup]
def G_at : List AV → Option AV
  | [x, .str nm] => match dGroups x with
    | some l => if l.length ≤ LI then some (.int .i64 (ixOf (fun g => g.name == nm) l)) else none
    | none => none
  | _ => none
theorem w_ref43_at {C : Ctx} {x : AV} {l : List Group} (nm : List UInt8) (ha : dGroups x = some l) (hl : l.length ≤ LI) :
    FnW C c_ref43_at r_ref43_at [x, .str nm] (.int .i64 (ixOf (fun g => g.name == nm) l)) := by
  unfold FnW c_ref43_at r_ref43_at
  generalize hv : AV.int .i64 (ixOf (fun g : Group => g.name == nm) l) = v
  simp +contextual -implicitDefEqProofs [dSl_len ha]
  obtain ⟨J, hJ⟩ : ∃ J : Nat → Env → Nat → Hp → Prop, J = Scan [(0, x), (1, .str nm)] [] fun j => ∀ hj : j < l.length, (l[j].name == nm) = false := ⟨_, rfl⟩
  refine Wk_scan l.length 5 0 J hl (Nat.zero_le _) (by simp) (hJ ▸ ⟨by simp, by simp, Upto.zero⟩) ?_ ?_
  · intro i env n h _ hi hw ei hj
    rw [hJ] at hj
    obtain ⟨fe, -, hp⟩ := hj
    simp only [FE_cons, FE_nil, and_true] at fe
    obtain ⟨c, h1, h2⟩ := dSl_at ha hi
    obtain ⟨u, gs, rfl, a1, a2, a3, a4⟩ := dGroup_inv h2
    simp +contextual -implicitDefEqProofs [ei, fe, hi, h1, hw, dSl_len ha]
    refine Ck_mk ?_ ?_ <;> intro hc
    · simp +contextual -implicitDefEqProofs [ei]
      rw [← hv, ixOf_at hi (fun j hj => hp j hj _) (by simpa using hc)]
    · simp +contextual -implicitDefEqProofs [ei, fe, hw]
      rw [hJ]
      exact ⟨by simp [fe], by simp, hp.succ fun _ => by simpa using hc⟩
  · intro env n h ei hj
    rw [hJ] at hj
    obtain ⟨fe, -, hp⟩ := hj
    simp only [FE_cons, FE_nil, and_true] at fe
    simp +contextual -implicitDefEqProofs [ei, fe, dSl_len ha]
    rw [← hv, ixOf_none fun j hj => hp j hj hj]

/-! ### strings -/
def prB (c : UInt8) : Bool := !(decide ((c.toNat : Int) < 33) || decide ((126 : Int) < c.toNat))
def G_printable : List AV → Option AV
  | [.str s] => if s.length ≤ LI then some (.bool (s.all prB)) else none
  | _ => none
theorem w_glob_printable {C : Ctx} (s : List UInt8) (hl : s.length ≤ LI) : FnW C c_glob_printable r_glob_printable [.str s] (.bool (s.all prB)) := by
  unfold FnW c_glob_printable r_glob_printable
  generalize hv : AV.bool (s.all prB) = v
  simp +contextual -implicitDefEqProofs
  obtain ⟨J, hJ⟩ : ∃ J : Nat → Env → Nat → Hp → Prop, J = Scan [(0, .str s), (5, .int .i64 s.length)] [] fun j => ∀ hj : j < s.length, prB s[j] = true := ⟨_, rfl⟩
  refine Wk_scan s.length 6 0 J hl (Nat.zero_le _) (by simp) (hJ ▸ ⟨by simp, by simp, Upto.zero⟩) ?_ ?_
  · intro i env n h _ hi hw ei hj
    rw [hJ] at hj
    obtain ⟨fe, -, hp⟩ := hj
    simp only [FE_cons, FE_nil, and_true] at fe
    simp +contextual -implicitDefEqProofs [ei, fe, hi, hw]
    refine Ck_mk ?_ ?_ <;> intro hc
    · simp +contextual -implicitDefEqProofs
      rw [← hv, all_at hi (by simp only [prB]; grind)]
    · simp +contextual -implicitDefEqProofs [ei, fe, hw]
      rw [hJ]
      exact ⟨by simp [fe], by simp, hp.succ fun _ => by simp only [prB]; grind⟩
  · intro env n h ei hj
    rw [hJ] at hj
    obtain ⟨fe, -, hp⟩ := hj
    simp only [FE_cons, FE_nil, and_true] at fe
    simp +contextual -implicitDefEqProofs [ei, fe]
    rw [← hv, all_none fun j hj => hp j hj hj]
def lastUp (s : List UInt8) (c : Int) : Nat → Int
  | 0 => -1
  | i + 1 => if ((s.getD i 0).toNat : Int) = c then i else lastUp s c i
def G_last : List AV → Option AV
  | [.str s, .int .u8 c] => if s.length ≤ LI then some (.int .i64 (lastUp s c s.length)) else none
  | _ => none
theorem w_ref02_last {C : Ctx} (s : List UInt8) (c : Int) (hl : s.length ≤ LI) : FnW C c_ref02_last r_ref02_last [.str s, .int .u8 c] (.int .i64 (lastUp s c s.length)) := by
  unfold FnW c_ref02_last r_ref02_last
  generalize hv : AV.int .i64 (lastUp s c s.length) = v
  simp +contextual -implicitDefEqProofs
  obtain ⟨J, hJ⟩ : ∃ J : Nat → Env → Nat → Hp → Prop, J = fun i env n h => FE env [(0, .str s), (1, .int .u8 c), (5, .int .i64 (lastUp s c i))] := ⟨_, rfl⟩
  refine Wk_scan s.length 6 0 J hl (Nat.zero_le _) (by simp) (hJ ▸ by simp [lastUp]) ?_ ?_
  · intro i env n h _ hi hw ei hj
    rw [hJ] at hj
    simp only [FE_cons, FE_nil, and_true] at hj
    simp +contextual -implicitDefEqProofs [ei, hj, hi, hw]
    refine Ck_mk ?_ ?_ <;> intro hc
    · simp +contextual -implicitDefEqProofs [ei, hj, hw]
      rw [hJ]
      simp [hj, lastUp, hi]
      simp at hc
      simp [hc]
    · simp +contextual -implicitDefEqProofs [ei, hj, hw]
      rw [hJ]
      simp [hj, lastUp, hi]
      simp at hc
      simp [hc]
  · intro env n h ei hj
    rw [hJ] at hj
    simp only [FE_cons, FE_nil, and_true] at hj
    simp +contextual -implicitDefEqProofs [ei, hj]
    rw [← hv]
theorem lastUp_neg (s : List UInt8) (c : UInt8) : ∀ i, i ≤ s.length → decide (lastUp s c.toNat i < 0) = !(s.take i).contains c := by
  intro i
  induction i with
  | zero => intro _; simp [lastUp]
  | succ i ih =>
    intro hi
    have hi' : i < s.length := by omega
    have h2 : c ∈ s.take (i + 1) ↔ c ∈ s.take i ∨ c = s[i] := by rw [List.take_succ_eq_append_getElem hi']; simp only [List.mem_append, List.mem_singleton]
    have e : s.getD i 0 = s[i] := by simp [hi']
    rw [lastUp, e]
    by_cases hc : s[i] = c
    · simp [hc, h2]
    · have : ¬ (s[i].toNat : Int) = c.toNat := by
        intro q; apply hc; exact UInt8.toNat_inj.1 (by omega)
      rw [if_neg this, ih (by omega)]
      have hc' : ¬ c = s[i] := fun q => hc q.symm
      simp [h2, hc']

/-! ### paths -/
theorem splitB_first (c : UInt8) : ∀ (l : List UInt8) (m : Nat) (h : m < l.length), l[m] = c → (∀ j (hj : j < m), l[j]'(by omega) ≠ c) → splitB c l = l.take m :: splitB c (l.drop (m + 1)) := by
  intro l
  induction l with
  | nil => intro m h; simp at h
  | cons x r ih =>
    intro m h hm hn
    cases m with
    | zero => simp at hm; simp [splitB, hm]
    | succ m =>
      have h0 : ¬ x = c := by simpa using hn 0 (by omega)
      rw [splitB, if_neg h0, ih m (by simpa using h) (by simpa using hm) (fun j hj => by simpa using hn (j + 1) (by omega))]
      simp
theorem splitB_none (c : UInt8) : ∀ (l : List UInt8), (∀ j (hj : j < l.length), l[j] ≠ c) → splitB c l = [l] := by
  intro l
  induction l with
  | nil => intro _; rfl
  | cons x r ih =>
    intro hn
    have h0 : ¬ x = c := hn 0 (by simp)
    rw [splitB, if_neg h0, ih (fun j hj => hn (j + 1) (by simpa using hj))]
def vpB (s : List UInt8) : Bool := !decide ((60 : Int) < s.length) && (splitB 47 s).all nameB
def G_vp : List AV → Option AV
  | [.str s] => some (.bool (vpB s))
  | _ => none
theorem w_ref02_ValidPath {C : Ctx} (hN : C.TP i_ref02_name = some G_ref02_name) (s : List UInt8) : FnW C c_ref02_ValidPath r_ref02_ValidPath [.str s] (.bool (vpB s)) := by
  unfold FnW c_ref02_ValidPath r_ref02_ValidPath
  generalize hv : AV.bool (vpB s) = v
  simp +contextual -implicitDefEqProofs
  refine Ck_mk ?_ ?_ <;> intro hq
  · simp +contextual -implicitDefEqProofs
    rw [← hv, vpB, hq]; rfl
  · have hl : s.length ≤ 60 := by simp at hq; omega
    simp +contextual -implicitDefEqProofs
    obtain ⟨J, hJ⟩ : ∃ J : Nat → Env → Nat → Hp → Prop, J = fun i env n h => ∃ (b : Nat) (l : List (List UInt8)), (i ≤ s.length → b ≤ i ∧ splitB 47 s = l ++ splitB 47 (s.drop b) ∧ ∀ j, b ≤ j → j < i → ∀ hj : j < s.length, s[j] ≠ 47) ∧ (s.length < i → splitB 47 s = l) ∧ l.all nameB = true ∧ FE env [(0, .str s), (3, .int .i64 b)] := ⟨_, rfl⟩
    refine Wk_scan (s.length + 1) 4 0 J (by omega) (Nat.zero_le _) (by simp) (hJ ▸ ⟨0, [], by simp, by simp, by simp, by simp⟩) ?_ ?_
    · intro i env n h _ hi hw ei hj
      rw [hJ] at hj
      obtain ⟨b, l, h1, h2, h3, fe⟩ := hj
      obtain ⟨hb, hsp, hno⟩ := h1 (by omega)
      simp only [FE_cons, FE_nil, and_true] at fe
      have hi' : i ≤ s.length := by omega
      have hidx : i = s.length ∨ i < s.length := by omega
      have hwb : IntKind.i64.wrap ((i : Int) + 1) = (i : Int) + 1 := hw
      rcases hidx with rfl | hlt
      · have hle : s.length - b ≤ 1000000 := by omega
        have hsp1 : splitB 47 (s.drop b) = [s.drop b] := splitB_none 47 _ fun j hj => by
          have hj' : b + j < s.length := by simpa [Nat.add_comm] using (show j < s.length - b by simpa using hj) |> fun q => (by omega : b + j < s.length)
          have := hno (b + j) (by omega) hj' hj'
          simpa [List.getElem_drop] using this
        rw [hsp1] at hsp
        simp +contextual -implicitDefEqProofs [ei, fe, hw, hb, callA_fix hN, G_ref02_name, hle]
        refine Ck_mk ?_ ?_ <;> intro hc
        · simp +contextual -implicitDefEqProofs
          rw [← hv, vpB, hq, hsp]
          simp at hc
          simp [hc]
        · simp +contextual -implicitDefEqProofs [ei, fe, hw, hwb]
          rw [hJ]
          refine ⟨s.length + 1, l ++ [s.drop b], by omega, fun _ => hsp, ?_, by simp [fe]⟩
          simp at hc h3
          simp [hc]
          exact h3
      · have hne : ¬ (i : Int) = s.length := by omega
        have hle : i - b ≤ 1000000 := by omega
        simp +contextual -implicitDefEqProofs [ei, fe, hi', hw, hlt, hne]
        refine Ck_mk ?_ ?_ <;> intro hc
        · have hci : s[i] = 47 := UInt8.toNat_inj.1 (by simp at hc; simp; omega)
          have hsp1 : splitB 47 (s.drop b) = (s.take i).drop b :: splitB 47 (s.drop (i + 1)) := by
            have := splitB_first 47 (s.drop b) (i - b) (by simp; omega) (by simp [List.getElem_drop]; rw [← hci]; congr 1; omega) (fun j hj => by
              have hj' : b + j < s.length := by omega
              have := hno (b + j) (by omega) (by omega) hj'
              simpa [List.getElem_drop] using this)
            rw [this, List.drop_drop, List.drop_take]
            congr 2
            congr 1
            omega
          rw [hsp1] at hsp
          have hmin : (List.take i s).length - b ≤ 1000000 := by simp; omega
          simp +contextual -implicitDefEqProofs [ei, fe, hw, hb, hi', callA_fix hN, G_ref02_name, hle, hmin]
          refine Ck_mk ?_ ?_ <;> intro hd
          · simp +contextual -implicitDefEqProofs
            rw [← hv, vpB, hq, hsp]
            simp at hd
            simp [hd]
          · simp +contextual -implicitDefEqProofs [ei, fe, hw, hwb]
            rw [hJ]
            refine ⟨i + 1, l ++ [(s.take i).drop b], fun _ => ⟨Nat.le_refl _, by rw [hsp]; simp, fun j hj1 hj2 hj => absurd hj2 (by omega)⟩, by omega, ?_, by simp [fe]⟩
            simp at hd h3
            simp [hd]
            exact h3
        · simp +contextual -implicitDefEqProofs [ei, fe, hw]
          rw [hJ]
          refine ⟨b, l, fun _ => ⟨by omega, hsp, fun j hj1 hj2 hj => ?_⟩, by omega, h3, by simp [fe]⟩
          rcases Nat.lt_succ_iff_lt_or_eq.1 hj2 with q | rfl
          · exact hno j hj1 q hj
          · intro q; simp [q] at hc
    · intro env n h ei hj
      rw [hJ] at hj
      obtain ⟨b, l, h1, h2, h3, fe⟩ := hj
      simp only [FE_cons, FE_nil, and_true] at fe
      simp +contextual -implicitDefEqProofs [ei, fe]
      have : ¬ (s.length : Int) + 1 ≤ s.length := by omega
      simp +contextual -implicitDefEqProofs [this]
      rw [← hv, vpB, hq, h2 (by omega), h3]; rfl
/-! ### the other path's checks -/
theorem w_glob_ValidPath {C : Ctx} (hS : C.TP i_strings_Split = some G_Split1) (hL : C.TP i_glob_letter = some G_glob_letter) (s : List UInt8) : FnW C c_glob_ValidPath r_glob_ValidPath [.str s] (.bool (vpB s)) := by
  unfold FnW c_glob_ValidPath r_glob_ValidPath
  generalize hv : AV.bool (vpB s) = v
  simp +contextual -implicitDefEqProofs
  refine Ck_mk ?_ ?_ <;> intro hq
  · simp +contextual -implicitDefEqProofs
    rw [← hv, vpB, hq]; rfl
  · have hl : s.length ≤ 60 := by simp at hq; omega
    have hl' : s.length ≤ 1000000 := by omega
    simp +contextual -implicitDefEqProofs [callA_fix hS, G_Split1, hl']
    obtain ⟨ps, hps⟩ : ∃ ps, splitB 47 s = ps := ⟨_, rfl⟩
    have hpl : ps.length ≤ 61 := by
      have h1 := splitB_len 47 s
      have h2 : s.count 47 ≤ s.length := List.count_le_length
      rw [hps] at h1; omega
    have hd : dStrs (.lst 1 (ps.map fun p => [.str p]) true) = some ps := by simp [dSl, seqO_map (d := dStr) (f := fun p => [AV.str p]) (fun x => rfl)]
    rw [hps]
    obtain ⟨J, hJ⟩ : ∃ J : Nat → Env → Nat → Hp → Prop, J = Scan [(10, .lst 1 (ps.map fun p => [.str p]) true), (11, .int .i64 ps.length)] [] fun j => ∀ hj : j < ps.length, nameB ps[j] = true := ⟨_, rfl⟩
    refine Wk_scan ps.length 12 0 J (by omega) (Nat.zero_le _) (by simp) (hJ ▸ ⟨by simp, by simp, Upto.zero⟩) ?_ ?_
    · intro i env n h _ hi hw ei hj
      rw [hJ] at hj
      obtain ⟨fe, -, hp⟩ := hj
      simp only [FE_cons, FE_nil, and_true] at fe
      obtain ⟨c, h1, h2⟩ := dSl_at hd hi
      obtain rfl := dStr_inv h2
      simp +contextual -implicitDefEqProofs [ei, fe, hi, hw]
      refine Ck_mk ?_ ?_ <;> intro hc
      · simp +contextual -implicitDefEqProofs
        rw [← hv, vpB, hps, all_at hi (by simp only [nameB]; grind)]; simp
      · simp +contextual -implicitDefEqProofs
        have hlen : ps[i].length ≤ 24 := by simp at hc; omega
        obtain ⟨J', hJ'⟩ : ∃ J' : Nat → Env → Nat → Hp → Prop, J' = fun k env n h => FE env [(4, .str ps[i]), (10, .lst 1 (ps.map fun p => [.str p]) true), (11, .int .i64 ps.length), (12, .int .i64 i)] ∧ Upto k fun j => ∀ hj : j < ps[i].length, letB (ps[i][j]) = true := ⟨_, rfl⟩
        refine Wk_scan ps[i].length 5 0 J' (by omega) (Nat.zero_le _) (by simp) (hJ' ▸ ⟨by simp [ei, fe], Upto.zero⟩) ?_ ?_
        · intro k env n h _ hk hw' ek hj
          rw [hJ'] at hj
          obtain ⟨fe', hp'⟩ := hj
          simp only [FE_cons, FE_nil, and_true] at fe'
          have hne : ¬ (k : Int) = ps[i].length := by omega
          simp +contextual -implicitDefEqProofs [ek, fe', hne, hk, callA_fix hL, G_glob_letter]
          refine Ck_mk ?_ ?_ <;> intro hd
          · simp +contextual -implicitDefEqProofs
            have : letB ps[i][k] = false := by simp at hd; exact hd
            rw [← hv, vpB, hps, all_at hi (by simp [nameB, all_at hk this])]; simp
          · simp +contextual -implicitDefEqProofs [ek, fe', hw']
            rw [hJ']
            exact ⟨by simp [fe'], hp'.succ fun _ => by simp at hd; exact hd⟩
        · intro env n h ek hj
          rw [hJ'] at hj
          obtain ⟨fe', hp'⟩ := hj
          simp only [FE_cons, FE_nil, and_true] at fe'
          simp +contextual -implicitDefEqProofs [ek, fe', hw]
          rw [hJ]
          refine ⟨by simp [fe'], by simp, hp.succ fun _ => ?_⟩
          have := all_none (p := letB) (l := ps[i]) fun j hj => hp' j hj hj
          simp only [nameB, this]; grind
    · intro env n h ei hj
      rw [hJ] at hj
      obtain ⟨fe, -, hp⟩ := hj
      simp only [FE_cons, FE_nil, and_true] at fe
      simp +contextual -implicitDefEqProofs [ei, fe]
      rw [← hv, vpB, hq, hps, all_none fun j hj => hp j hj hj]; rfl
def simpB (s : List UInt8) : Bool := vpB s && !s.contains 47
theorem vpB_len {s : List UInt8} (h : vpB s = true) : s.length ≤ 60 := by simp [vpB] at h; omega
def G_simple : List AV → Option AV
  | [.str s] => some (.bool (simpB s))
  | _ => none
theorem w_ref02_Simple {C : Ctx} (hV : C.TP i_ref02_ValidPath = some G_vp) (hL : C.TP i_ref02_last = some G_last) (s : List UInt8) : FnW C c_ref02_Simple r_ref02_Simple [.str s] (.bool (simpB s)) := by
  unfold FnW c_ref02_Simple r_ref02_Simple
  generalize hv : AV.bool (simpB s) = v
  have := lastUp_neg s 47 s.length (Nat.le_refl _)
  simp only [List.take_length] at this
  cases hvp : vpB s with
  | true =>
    have hl : s.length ≤ LI := by have := vpB_len hvp; simp only [LI]; omega
    simp +contextual -implicitDefEqProofs [callA_fix hV, callA_fix hL, G_vp, G_last, hl, hvp]
    rw [← hv, simpB, ← this, hvp]; rfl
  | false =>
    simp +contextual -implicitDefEqProofs [callA_fix hV, callA_fix hL, G_vp, hvp]
    rw [← hv, simpB, hvp]; rfl
def nm44B (s : List UInt8) : Bool := !s.contains 47 && vpB s
def G_nm44 : List AV → Option AV
  | [.str s] => if s.length ≤ LI then some (.bool (nm44B s)) else none
  | _ => none
theorem w_ref44_name {C : Ctx} (hV : C.TP i_ref02_ValidPath = some G_vp) (s : List UInt8) (hl : s.length ≤ LI) : FnW C c_ref44_name r_ref44_name [.str s] (.bool (nm44B s)) := by
  unfold FnW c_ref44_name r_ref44_name
  generalize hv : AV.bool (nm44B s) = v
  simp +contextual -implicitDefEqProofs
  obtain ⟨J, hJ⟩ : ∃ J : Nat → Env → Nat → Hp → Prop, J = Scan [(0, .str s)] [] fun j => ∀ hj : j < s.length, (s[j] == 47) = false := ⟨_, rfl⟩
  refine Wk_scan s.length 3 0 J hl (Nat.zero_le _) (by simp) (hJ ▸ ⟨by simp, by simp, Upto.zero⟩) ?_ ?_
  · intro i env n h _ hi hw ei hj
    rw [hJ] at hj
    obtain ⟨fe, -, hp⟩ := hj
    simp only [FE_cons, FE_nil, and_true] at fe
    simp +contextual -implicitDefEqProofs [ei, fe, hi, hw]
    refine Ck_mk ?_ ?_ <;> intro hc
    · have hci : s[i] = 47 := UInt8.toNat_inj.1 (by simp at hc; simp; omega)
      have : s.contains 47 = true := by rw [List.contains_iff_mem]; exact hci ▸ List.getElem_mem hi
      simp +contextual -implicitDefEqProofs
      rw [← hv, nm44B, this]; rfl
    · simp +contextual -implicitDefEqProofs [ei, fe, hw]
      rw [hJ]
      exact ⟨by simp [fe], by simp, hp.succ fun _ => by rw [beq_eq_false_iff_ne]; intro q; simp [q] at hc⟩
  · intro env n h ei hj
    rw [hJ] at hj
    obtain ⟨fe, -, hp⟩ := hj
    simp only [FE_cons, FE_nil, and_true] at fe
    have : s.contains 47 = false := by
      rw [Bool.eq_false_iff]
      intro hc
      rw [List.contains_iff_mem] at hc
      obtain ⟨j, hj, e⟩ := List.mem_iff_getElem.1 hc
      have := hp j hj hj
      simp [e] at this
    simp +contextual -implicitDefEqProofs [ei, fe, callA_fix hV, G_vp]
    rw [← hv, nm44B, this]; simp
end Go.Pv.T
namespace Go.Pv.T
open Go Go.Pv
set_option linter.unusedSimpArgs false
set_option linter.unusedVariables false

/-! ### patterns: sets -/
def rangesP : List UInt8 → List (UInt8 × UInt8) × Bool
  | a :: 45 :: b :: r => if b < a then ([], false) else ((a, b) :: (rangesP r).1, (rangesP r).2)
  | a :: r => ((a, a) :: (rangesP r).1, (rangesP r).2)
  | [] => ([], true)
def encR (p : UInt8 × UInt8) : List AV := [.int .u8 p.1.toNat, .int .u8 p.2.toNat]
def negOf : List UInt8 → Bool × List UInt8
  | 33 :: r => (true, r)
  | s => (false, s)
def setV (k : Int) (neg : Bool) (rs : List (UInt8 × UInt8)) : AV := .agg [.int .i64 k, .int .u8 0, .bool neg, mkSl 2 (rs.map encR)]
def setS (s : List UInt8) : Bool × List (UInt8 × UInt8) × Bool := ((negOf s).1, (rangesP (negOf s).2).1, (rangesP (negOf s).2).2 && !(rangesP (negOf s).2).1.isEmpty)
def G_glob_set : List AV → Option AV
  | [.str s] => if s.length ≤ 1000000 then some (.tup [setV 4 (setS s).1 (setS s).2.1, .bool (setS s).2.2]) else none
  | _ => none
theorem encR_fix (rs : List (UInt8 × UInt8)) : ∀ e ∈ rs.map encR, ∀ x ∈ e, Fix1 x := by
  intro e he x hx
  simp only [List.mem_map] at he
  obtain ⟨p, _, rfl⟩ := he
  simp [encR] at hx
  rcases hx with rfl | rfl <;> simp
/-- A struct with a slice that grew, and a flag. -/
theorem snap_set {h : Hp} {m n : Nat} {v : AV} {es : List (List AV)} (o : Own h m n 2 v es) (hf : ∀ e ∈ es, ∀ x ∈ e, Fix1 x) {k c : Int} {b : Bool} {w : AV} (hw : Fix1 w) :
    ∃ ids, snap h snapD (.tup [.agg [.int .i64 k, .int .u8 c, .bool b, v], w]) = some (.tup [.agg [.int .i64 k, .int .u8 c, .bool b, mkSl 2 es], w], ids) := by
  obtain ⟨ids, q⟩ := o.snap hf 8
  refine ⟨ids, ?_⟩
  have e1 : snap h 11 (.agg [.int .i64 k, .int .u8 c, .bool b, v]) = some (.agg [.int .i64 k, .int .u8 c, .bool b, mkSl 2 es], ids) := by
    rw [snap_aggE]
    simp only [snapLf, q, (Fix1.int .i64 k).snap h 9, (Fix1.int .u8 c).snap h 9, (Fix1.bool b).snap h 9]
    simp
  rw [snap_tupE]
  simp only [snapLf, e1, hw.snap h 10]
  simp
def Iset (k : Int) (neg : Bool) (rsA : List (UInt8 × UInt8)) (okA : Bool) (L m : Nat) (env : Env) (n : Nat) (h : Hp) : Prop :=
  ∃ (t : List UInt8) (ds : List (UInt8 × UInt8)) (v3 : AV), m = t.length ∧ ds.length + t.length ≤ L ∧ rsA = ds ++ (rangesP t).1 ∧ okA = (rangesP t).2 ∧ 2 ≤ n ∧
    env 0 = .str t ∧ env 2 = .ptr 0 0 0 ∧ env 4 = .ptr 1 0 0 ∧ h 0 = .row [[.int .i64 0, .int .u8 0, .bool false, .nils]] false ∧ h 1 = .row [[.int .i64 k, .int .u8 0, .bool neg, v3]] false ∧ Own h 2 n 2 v3 (ds.map encR)
theorem neg_eq (s : List UInt8) : (!s.isEmpty && decide (((s[0]?.getD 0).toNat : Int) = 33)) = (negOf s).1 ∧ (negOf s).2 = if (negOf s).1 = true then s.drop 1 else s := by
  cases s with
  | nil => simp [negOf]
  | cons a r =>
    by_cases h : a = 33
    · subst h; simp [negOf]
    · have h' : ¬ (a.toNat : Int) = 33 := fun q => h (UInt8.toNat_inj.1 (by simpa using (by omega : a.toNat = 33)))
      have : negOf (a :: r) = (false, a :: r) := by unfold negOf; split <;> simp_all
      simp [this, h']
def stepR : List UInt8 → UInt8 × UInt8 × Nat
  | a :: 45 :: b :: _ => (a, b, 3)
  | a :: _ => (a, a, 1)
  | [] => (0, 0, 1)
theorem rangesP_step (t : List UInt8) (h : t ≠ []) : rangesP t = if (stepR t).2.1 < (stepR t).1 then ([], false) else (((stepR t).1, (stepR t).2.1) :: (rangesP (t.drop (stepR t).2.2)).1, (rangesP (t.drop (stepR t).2.2)).2) := by
  cases t with
  | nil => exact absurd rfl h
  | cons a r =>
    cases r with
    | nil => simp [rangesP, stepR]
    | cons b r =>
      cases r with
      | nil => simp [rangesP, stepR]
      | cons c r =>
        by_cases hb : b = 45
        · subst hb; simp [rangesP, stepR]
        · simp [rangesP, stepR, hb]
theorem stepR_eq (t : List UInt8) (h : t ≠ []) : ((decide ((2 : Int) < t.length) && decide (((t[1]?.getD 0).toNat : Int) = 45)) = true → stepR t = (t[0]?.getD 0, t[2]?.getD 0, 3)) ∧ ((decide ((2 : Int) < t.length) && decide (((t[1]?.getD 0).toNat : Int) = 45)) = false → stepR t = (t[0]?.getD 0, t[0]?.getD 0, 1)) := by
  cases t with
  | nil => exact absurd rfl h
  | cons a r =>
    cases r with
    | nil => simp [stepR]
    | cons b r =>
      cases r with
      | nil => simp [stepR]
      | cons c r =>
        by_cases hb : b = 45
        · subst hb; simp [stepR]; omega
        · have hb' : ¬ (b.toNat : Int) = 45 := fun q => hb (UInt8.toNat_inj.1 (by simp; omega))
          simp [stepR, hb, hb']
theorem stepR_le (t : List UInt8) (h : t ≠ []) : 1 ≤ (stepR t).2.2 ∧ (stepR t).2.2 ≤ t.length := by
  unfold stepR
  split <;> simp_all
def Pset (t : List UInt8) (ds : List (UInt8 × UInt8)) (v3 : AV) (neg : Bool) (n0 : Nat) (env : Env) (n : Nat) (h : Hp) : Prop :=
  n = n0 + 1 ∧ env 0 = .str t ∧ env 2 = .ptr 0 0 0 ∧ env 4 = .ptr 1 0 0 ∧ env 5 = .ptr n0 0 0 ∧ env 6 = .int .i64 (stepR t).2.2 ∧ h 0 = .row [[.int .i64 0, .int .u8 0, .bool false, .nils]] false ∧ h 1 = .row [[.int .i64 4, .int .u8 0, .bool neg, v3]] false ∧
    h n0 = .row [[.int .u8 (stepR t).1.toNat, .int .u8 (stepR t).2.1.toNat]] false ∧ Own h 2 n0 2 v3 (ds.map encR)
set_option maxHeartbeats 4000000 in
theorem w_glob_set {C : Ctx} (s : List UInt8) (hl : s.length ≤ 1000000) : FnW C c_glob_set r_glob_set [.str s] (.tup [setV 4 (setS s).1 (setS s).2.1, .bool (setS s).2.2]) := by
  unfold FnW c_glob_set r_glob_set
  generalize hv : AV.tup [setV 4 (setS s).1 (setS s).2.1, .bool (setS s).2.2] = v
  obtain ⟨q1, q2⟩ := neg_eq s
  simp +contextual -implicitDefEqProofs [fillA]
  refine ⟨fun h => by cases s <;> simp_all, ?_⟩
  simp only [setS] at hv
  generalize hng : (negOf s).1 = neg at *
  generalize htt : (negOf s).2 = tt at *
  have hll : tt.length ≤ 1000000 := by rw [q2]; split <;> (try simp only [List.length_drop]) <;> omega
  refine Ck_join (Iset 4 neg (rangesP tt).1 (rangesP tt).2 tt.length tt.length) ?_ ?_ ?_
  · intro hq
    have hnt : neg = true := by rw [← q1]; exact hq
    have hlen : 0 < s.length := by cases s <;> simp_all
    have hlen1 : (1 : Int) ≤ s.length := by omega
    simp +contextual -implicitDefEqProofs [hlen, hlen1, confL, pairsL, indL, rdI, Nat.testBit]
    rw [hnt] at q2
    simp at q2
    exact ⟨tt, [], .nils, rfl, by simp, by simp, rfl, by simp, by simp [q2], by simp, by simp, by simp, by simp [hnt], .nil⟩
  · intro hq
    have hnf : neg = false := by rw [← q1]; exact hq
    simp +contextual -implicitDefEqProofs
    rw [hnf] at q2
    simp at q2
    exact ⟨tt, [], .nils, rfl, by simp, by simp, rfl, by simp, by simp [q2], by simp, by simp, by simp, by simp [hnf], .nil⟩
  · intro env n h hI
    simp +contextual -implicitDefEqProofs
    refine Wk_loop (Iset 4 neg (rangesP tt).1 (rangesP tt).2 tt.length) _ hI ?_
    rintro m env n h ⟨t, ds, v3, rfl, h1, h2, h3, h4, g0, g2, g4, gh0, gh1, hO⟩
    simp +contextual -implicitDefEqProofs [g0]
    refine Ck_mk ?_ ?_ <;> intro hne
    · have hne' : t ≠ [] := by intro q; subst q; simp at hne
      have hpos : 0 < t.length := List.length_pos_iff.2 hne'
      have hn0 : ¬ n = 0 := by omega
      have hn1 : ¬ n = 1 := by omega
      have hn0' : ¬ 0 = n := by omega
      have hn1' : ¬ 1 = n := by omega
      simp +contextual -implicitDefEqProofs [g0, g2, g4, gh0, gh1, hn0, hn1, hn0', hn1', hpos, fillA, confL, pairsL, indL, rdI, Nat.testBit]
      refine ⟨fun q => by omega, ?_⟩
      obtain ⟨st1, st2⟩ := stepR_eq t hne'
      refine Ck_join (Pset t ds v3 neg n) ?_ ?_ ?_
      · intro hq
        have hst := st1 hq
        have h2t : 2 < t.length := by simp at hq; omega
        have h2t' : (2 : Int) < t.length := by omega
        have e1 : (stepR t).1 = t[0] := by rw [hst]; simp [hpos]
        have e2 : (stepR t).2.1 = t[2] := by rw [hst]; simp [h2t]
        have e3 : (stepR t).2.2 = 3 := by rw [hst]
        simp +contextual -implicitDefEqProofs [h2t, h2t', g0, g2, g4]
        exact ⟨rfl, by simp [g0], by simp [g2], by simp [g4], by simp, by simp [e3], by simp [hn0', gh0], by simp [hn1', gh1], by simp [e1, e2], hO.keep (Nat.le_refl _) fun j _ hj => by simp [show ¬ j = n by omega]⟩
      · intro hq
        have hst := st2 hq
        have e1 : (stepR t).1 = t[0] := by rw [hst]; simp [hpos]
        have e2 : (stepR t).2.1 = t[0] := by rw [hst]; simp [hpos]
        have e3 : (stepR t).2.2 = 1 := by rw [hst]
        simp +contextual -implicitDefEqProofs
        exact ⟨rfl, by simp [g0], by simp [g2], by simp [g4], by simp, by simp [e3], by simp [hn0', gh0], by simp [hn1', gh1], by simp [e1, e2], hO.keep (Nat.le_refl _) fun j _ hj => by simp [show ¬ j = n by omega]⟩
      · rintro env n' h ⟨rfl, k0, k2, k4, k5, k6, kh0, kh1, khn, kO⟩
        have hrs := rangesP_step t hne'
        obtain ⟨hle1, hle2⟩ := stepR_le t hne'
        simp +contextual -implicitDefEqProofs [k0, k2, k4, k5, k6, kh0, kh1, khn]
        refine Ck_mk ?_ ?_ <;> intro hq
        · have hlt : (stepR t).2.1 < (stepR t).1 := by simp at hq; exact UInt8.lt_iff_toNat_lt.2 hq
          rw [if_pos hlt] at hrs
          obtain ⟨ids, hsn⟩ := snap_set (h := upd h 0 (.row [[.int .i64 4, .int .u8 0, .bool neg, v3]] false)) (k := 4) (c := 0) (b := neg) (w := .bool false) (kO.keep (Nat.le_refl _) fun j hj _ => by simp [show ¬ j = 0 by omega]) (encR_fix _) (by simp)
          simp +contextual -implicitDefEqProofs [k0, k2, k4, k5, k6, kh0, kh1, khn, kO.one, hsn]
          rw [← hv, h2, h3, hrs]
          simp [setV]
        · have hlt : ¬ (stepR t).2.1 < (stepR t).1 := by simp at hq; rw [UInt8.lt_iff_toNat_lt]; omega
          rw [if_neg hlt] at hrs
          have hnn : ¬ n = n + 1 := by omega
          obtain ⟨v', ws, e, o', hk, -⟩ := Own.append (n := n + 2) (x := .arr (n + 1) 0 1 1 2 false) (new := [encR ((stepR t).1, (stepR t).2.1)]) (kO.keep (h' := upd h (n + 1) (.row [encR ((stepR t).1, (stepR t).2.1)] false)) (Nat.le_refl _) fun j _ hj => by simp [show ¬ j = n + 1 by omega]) (by omega) (by omega) (by simp [elsOf]) (by simp) (by simp [lenLim]; omega)
          have o1 := o'
          simp only [encR] at e o1 hk
          have H0 := hk 0 (by omega) (kO.dies (by omega))
          have H1 := hk 1 (by omega) (kO.dies (by omega))
          rw [upd_get, if_neg (by omega), kh0] at H0
          rw [upd_get, if_neg (by omega), kh1] at H1
          have hone : v'.one = true := (Own.one (.inr o1))
          have hce : v'.cells = [v'] := (Own.cells (.inr o1))
          have hz : (stepR t).2.2 ≤ t.length := hle2
          simp +contextual -implicitDefEqProofs [k0, k2, k4, k5, k6, kh0, kh1, khn, kO.one, fillE, e, setR_0, H0, H1, hone, hce, hz]
          refine ⟨(t.drop (stepR t).2.2).length, by simp; omega, t.drop (stepR t).2.2, ds ++ [((stepR t).1, (stepR t).2.1)], v', rfl, by simp; omega, by rw [h2, hrs]; simp, by rw [h3, hrs], by omega, by simp, by simp [k2], by simp [k4], by simp [H0], by simp, ?_⟩
          simp only [List.map_append, List.map_cons, List.map_nil, encR]
          exact Or.inr (o1.keep (Nat.le_refl _) fun j hj _ => by simp [show ¬ j = 1 by omega])
    · obtain rfl : t = [] := by simpa using hne
      obtain ⟨iv, hiv, hivm⟩ := hO.ids
      have hiv0 : ¬ 0 ∈ iv := fun q => by have := (hivm 0 q).1; omega
      obtain ⟨ids, hsn⟩ := snap_set (h := upd h 0 (.row [[.int .i64 4, .int .u8 0, .bool neg, v3]] false)) (k := 4) (c := 0) (b := neg) (w := .bool (decide (0 < ds.length))) (hO.keep (Nat.le_refl _) fun j hj _ => by simp [show ¬ j = 0 by omega]) (encR_fix _) (by simp)
      simp +contextual -implicitDefEqProofs [g0, g2, g4, gh0, gh1, hO.len, hO.one, hiv, hiv0, confL, pairsL, indL, rdI, Nat.testBit, hsn]
      rw [← hv, h2, h3]
      cases ds <;> simp [setV, rangesP]
end Go.Pv.T
namespace Go.Pv.T
open Go Go.Pv
set_option linter.unusedSimpArgs false
set_option linter.unusedVariables false

@[simp] theorem mkSl_one {sz es} : (mkSl sz es).one = true := by unfold mkSl; split <;> rfl
@[simp] theorem mkSl_fix1 {sz es} : Fix1 (mkSl sz es) := by unfold mkSl; split <;> simp
@[simp] theorem mkSl_cells {sz es} : (mkSl sz es).cells = [mkSl sz es] := by unfold mkSl; split <;> rfl
/-! ### patterns: elements -/
inductive El where
  | ch (c : UInt8)
  | q
  | star
  | dstar
  | set (neg : Bool) (rs : List (UInt8 × UInt8))
  deriving DecidableEq
def encP : El → List AV
  | .ch c => [.int .i64 0, .int .u8 c.toNat, .bool false, .nils]
  | .q => [.int .i64 3, .int .u8 63, .bool false, .nils]
  | .star => [.int .i64 2, .int .u8 42, .bool false, .nils]
  | .dstar => [.int .i64 1, .int .u8 42, .bool false, .nils]
  | .set neg rs => [.int .i64 4, .int .u8 0, .bool neg, mkSl 2 (rs.map encR)]
def setAtS (t : List UInt8) : Option (El × Nat) :=
  if Lib.indexByte t 93 < 0 then none else
  if (setS ((t.take (Lib.indexByte t 93).toNat).drop 1)).2.2 && ((t.take (Lib.indexByte t 93).toNat).drop 1).all prB then some (.set (setS ((t.take (Lib.indexByte t 93).toNat).drop 1)).1 (setS ((t.take (Lib.indexByte t 93).toNat).drop 1)).2.1, (Lib.indexByte t 93).toNat + 1) else none
def elStep (t : List UInt8) : Option (El × Nat) :=
  if (!prB (t.headD 0) || t.headD 0 == 93 || [42, 42, 42].isPrefixOf t) = true then none
  else if [42, 42].isPrefixOf t = true then some (.dstar, 2)
  else if (t.headD 0 == 42) = true then some (.star, 1)
  else if (t.headD 0 == 63) = true then some (.q, 1)
  else if (t.headD 0 == 91) = true then setAtS t
  else some (.ch (t.headD 0), 1)
def parseF : Nat → List UInt8 → Option (List El)
  | 0, _ => none
  | f + 1, t => if t.isEmpty = true then some [] else (elStep t).bind fun p => (parseF f (t.drop p.2)).map (p.1 :: ·)
theorem parseF_succ (f : Nat) (t : List UInt8) : parseF (f + 1) t = if t.isEmpty = true then some [] else (elStep t).bind fun p => (parseF f (t.drop p.2)).map (p.1 :: ·) := rfl
def parseS (t : List UInt8) : Option (List El) := parseF (t.length + 1) t
theorem setAtS_le {t : List UInt8} {x n} (hs : setAtS t = some (x, n)) : 1 ≤ n ∧ n ≤ t.length := by
  unfold setAtS at hs
  generalize hk : Lib.indexByte t 93 = k at hs
  by_cases h1 : k < 0
  · simp [h1] at hs
  · rw [if_neg h1] at hs
    split at hs
    · simp only [Option.some.injEq, Prod.mk.injEq] at hs
      have := (splitB_at 93 t k.toNat (by omega)).1
      omega
    · cases hs
theorem elStep_le {t : List UInt8} (h : t ≠ []) {x n} (hs : elStep t = some (x, n)) : 1 ≤ n ∧ n ≤ t.length := by
  have hpos : 0 < t.length := List.length_pos_iff.2 h
  have hpre : ∀ p : List UInt8, p.isPrefixOf t = true → p.length ≤ t.length := fun p hp => (List.isPrefixOf_iff_prefix.1 hp).length_le
  unfold elStep at hs
  generalize (!prB (t.headD 0) || t.headD 0 == 93 || [42, 42, 42].isPrefixOf t) = b1 at hs
  generalize (t.headD 0 == 42) = b3 at hs
  generalize (t.headD 0 == 63) = b4 at hs
  generalize (t.headD 0 == 91) = b5 at hs
  have h2 := hpre [42, 42]
  generalize [42, 42].isPrefixOf t = b2 at hs h2
  cases b1
  · cases b2
    · cases b3
      · cases b4
        · cases b5
          · simp at hs; omega
          · simp at hs; exact setAtS_le hs
        · simp at hs; omega
      · simp at hs; omega
    · have := h2 rfl
      simp at hs this; omega
  · simp at hs
theorem parseF_nil (f : Nat) : parseF (f + 1) [] = some [] := rfl
theorem parseF_none {f : Nat} {t : List UInt8} (h : t ≠ []) (hs : elStep t = none) : parseF (f + 1) t = none := by
  rw [parseF_succ, if_neg (by simpa using h), hs]; rfl
theorem parseF_some {f : Nat} {t : List UInt8} {x : El} {n : Nat} (h : t ≠ []) (hs : elStep t = some (x, n)) : parseF (f + 1) t = (parseF f (t.drop n)).map (x :: ·) := by
  rw [parseF_succ, if_neg (by simpa using h), hs]; rfl
theorem parseF_fuel : ∀ (f g : Nat) (t : List UInt8), t.length < f → f ≤ g → parseF g t = parseF f t := by
  intro f
  induction f with
  | zero => intro g t h; omega
  | succ f ih =>
    intro g t h hg
    obtain ⟨g, rfl⟩ : ∃ k, g = k + 1 := ⟨g - 1, by omega⟩
    by_cases hne : t = []
    · rw [hne, parseF_nil, parseF_nil]
    · cases hs : elStep t with
      | none => rw [parseF_none hne hs, parseF_none hne hs]
      | some p =>
        obtain ⟨x, n⟩ := p
        obtain ⟨h1, h2⟩ := elStep_le hne hs
        rw [parseF_some hne hs, parseF_some hne hs, ih g (t.drop n) (by simp only [List.length_drop]; omega) (by omega)]
theorem parseS_nil : parseS [] = some [] := parseF_nil 0
theorem parseS_none {t : List UInt8} (h : t ≠ []) (hs : elStep t = none) : parseS t = none := parseF_none h hs
theorem parseS_some {t : List UInt8} {x : El} {n : Nat} (h : t ≠ []) (hs : elStep t = some (x, n)) : parseS t = (parseS (t.drop n)).map (x :: ·) := by
  obtain ⟨h1, h2⟩ := elStep_le h hs
  unfold parseS
  rw [parseF_some h hs, parseF_fuel ((t.drop n).length + 1) t.length (t.drop n) (by omega) (by simp only [List.length_drop]; omega)]
def parseV (t : List UInt8) : AV := match parseS t with
  | some l => .tup [mkSl 4 (l.map encP), .bool true]
  | none => .tup [.nils, .bool false]
def G_glob_parse : List AV → Option AV
  | [.str s] => if s.length ≤ 1000000 then some (parseV s) else none
  | _ => none
theorem encP_fix (l : List El) : ∀ e ∈ l.map encP, ∀ x ∈ e, Fix1 x := by
  intro e he x hx
  simp only [List.mem_map] at he
  obtain ⟨p, _, rfl⟩ := he
  cases p <;> simp [encP] at hx
  all_goals first
    | (rcases hx with rfl | rfl | rfl | rfl <;> simp)
    | (rcases hx with rfl | rfl | rfl | rfl <;> first | simp | (unfold mkSl; split <;> simp))
def Iparse (s : List UInt8) (m : Nat) (env : Env) (n : Nat) (h : Hp) : Prop :=
  ∃ (t : List UInt8) (ds : List El) (v4 : AV), m = t.length ∧ ds.length + t.length ≤ s.length ∧ parseS s = (parseS t).map (ds ++ ·) ∧ env 0 = .str t ∧ env 4 = v4 ∧ Own h 0 n 4 v4 (ds.map encP)
def Pparse (t : List UInt8) (ds : List El) (v4 : AV) (n0 : Nat) (env : Env) (n : Nat) (h : Hp) : Prop :=
  ∃ x k, elStep t = some (x, k) ∧ n = n0 + 1 ∧ env 0 = .str t ∧ env 4 = v4 ∧ env 5 = .ptr n0 0 0 ∧ env 6 = .int .i64 (k : Nat) ∧ h n0 = .row [encP x] false ∧ Own h 0 n0 4 v4 (ds.map encP)
set_option maxHeartbeats 4000000 in
theorem w_glob_parse {C : Ctx} (hP : C.TP i_strings_HasPrefix = some G_HasPrefix) (hI : C.TP i_strings_IndexByte = some indexByteF) (hS : C.TP i_glob_set = some G_glob_set) (hR : C.TP i_glob_printable = some G_printable) (s : List UInt8) (hl : s.length ≤ 1000000) :
    FnW C c_glob_parse r_glob_parse [.str s] (parseV s) := by
  unfold FnW c_glob_parse r_glob_parse
  generalize hv : parseV s = v
  simp +contextual -implicitDefEqProofs
  refine Wk_loop (Iparse s) s.length ⟨s, [], .nils, rfl, by simp, by simp, by simp, by simp, .nil⟩ ?_
  rintro m env n h ⟨t, ds, v4, rfl, h1, h2, g0, g4, hO⟩
  simp +contextual -implicitDefEqProofs [g0]
  refine Ck_mk ?_ ?_ <;> intro hne
  · have hne' : t ≠ [] := by intro q; subst q; simp at hne
    have hpos : 0 < t.length := List.length_pos_iff.2 hne'
    have hhd : t.headD 0 = t[0] := by cases t with
      | nil => exact absurd rfl hne'
      | cons a r => rfl
    have hb1 : (decide ((t[0].toNat : Int) < 33) || decide ((126 : Int) < t[0].toNat) || decide ((t[0].toNat : Int) = 93) || [42, 42, 42].isPrefixOf t) = (!prB (t.headD 0) || t.headD 0 == 93 || [42, 42, 42].isPrefixOf t) := by
      rw [hhd]
      have : decide ((t[0].toNat : Int) = 93) = (t[0] == 93) := by
        rw [Bool.eq_iff_iff]; simp; constructor
        · intro q; exact UInt8.toNat_inj.1 (by simp; omega)
        · intro q; rw [q]; rfl
      rw [this]
      simp [prB]
    simp +contextual -implicitDefEqProofs [g0, g4, hpos, fillA, callA_fix hP, G_HasPrefix]
    refine Ck_joinB (Pparse t ds v4 n) ?_ ?_ ?_
    · intro hq
      simp +contextual -implicitDefEqProofs
      rw [snap_tup (by intro y hy; simp at hy; rcases hy with rfl | rfl <;> simp)]
      have : elStep t = none := by unfold elStep; rw [if_pos (by rw [← hb1]; exact hq)]
      rw [← hv, parseV, h2, parseS_none hne' this]
      simp
    · intro hq
      have hq1 : (!prB (t.headD 0) || t.headD 0 == 93 || [42, 42, 42].isPrefixOf t) = false := by rw [← hb1]; exact hq
      obtain ⟨st, hst⟩ : ∃ st, elStep t = st := ⟨_, rfl⟩
      have hst0 := hst
      unfold elStep at hst
      rw [if_neg (by rw [hq1]; simp)] at hst
      simp +contextual -implicitDefEqProofs [g0, g4, hpos, callA_fix hP, G_HasPrefix]
      refine Ck_mk ?_ ?_ <;> intro hq2
      · rw [if_pos hq2] at hst
        subst hst
        have h42 : t[0] = 42 := by
          obtain ⟨r, hr⟩ := List.isPrefixOf_iff_prefix.1 hq2
          subst hr; rfl
        simp +contextual -implicitDefEqProofs [g0, g4, hpos]
        exact ⟨.dstar, 2, hst0, rfl, by simp [g0], by simp [g4], by simp, by simp, by simp [encP, h42], hO.keep (Nat.le_refl _) fun j _ hj => by simp [show ¬ j = n by omega]⟩
      · rw [if_neg (by rw [hq2]; simp)] at hst
        simp +contextual -implicitDefEqProofs [g0, g4, hpos]
        refine Ck_mk ?_ ?_ <;> intro hq3
        · have h3 : (t.headD 0 == 42) = true := by rw [hhd]; simp at hq3; simp; exact UInt8.toNat_inj.1 (by simp; omega)
          rw [if_pos h3] at hst
          subst hst
          have h42 : t[0] = 42 := by rw [hhd] at h3; simpa using h3
          simp +contextual -implicitDefEqProofs [g0, g4, hpos]
          exact ⟨.star, 1, hst0, rfl, by simp [g0], by simp [g4], by simp, by simp, by simp [encP, h42], hO.keep (Nat.le_refl _) fun j _ hj => by simp [show ¬ j = n by omega]⟩
        · have h3 : ¬ (t.headD 0 == 42) = true := by rw [hhd]; simp at hq3; simp; intro q; rw [q] at hq3; simp at hq3
          rw [if_neg h3] at hst
          simp +contextual -implicitDefEqProofs [g0, g4, hpos]
          refine Ck_mk ?_ ?_ <;> intro hq4
          · have h4 : (t.headD 0 == 63) = true := by rw [hhd]; simp at hq4; simp; exact UInt8.toNat_inj.1 (by simp; omega)
            rw [if_pos h4] at hst
            subst hst
            have h63 : t[0] = 63 := by rw [hhd] at h4; simpa using h4
            simp +contextual -implicitDefEqProofs [g0, g4, hpos]
            exact ⟨.q, 1, hst0, rfl, by simp [g0], by simp [g4], by simp, by simp, by simp [encP, h63], hO.keep (Nat.le_refl _) fun j _ hj => by simp [show ¬ j = n by omega]⟩
          · have h4 : ¬ (t.headD 0 == 63) = true := by rw [hhd]; simp at hq4; simp; intro q; rw [q] at hq4; simp at hq4
            rw [if_neg h4] at hst
            simp +contextual -implicitDefEqProofs [g0, g4, hpos]
            refine Ck_mk ?_ ?_ <;> intro hq5
            · have h5 : (t.headD 0 == 91) = true := by rw [hhd]; simp at hq5; simp; exact UInt8.toNat_inj.1 (by simp; omega)
              rw [if_pos h5] at hst
              have h91 : t[0] = 91 := by rw [hhd] at h5; simpa using h5
              obtain ⟨ix, hix⟩ : ∃ ix, Lib.indexByte t 93 = ix := ⟨_, rfl⟩
              unfold setAtS at hst
              rw [hix] at hst
              simp +contextual -implicitDefEqProofs [g0, g4, hpos, callA_fix hI, indexByteF, hix]
              refine Ck_mk ?_ ?_ <;> intro hq6
              · rw [if_pos (by simpa using hq6)] at hst
                subst hst
                simp +contextual -implicitDefEqProofs
                rw [snap_tup (by intro y hy; simp at hy; rcases hy with rfl | rfl <;> simp)]
                rw [← hv, parseV, h2, parseS_none hne' hst0]
                simp
              · have hix0 : ¬ ix < 0 := by simpa using hq6
                rw [if_neg hix0] at hst
                obtain ⟨k, rfl⟩ : ∃ k : Nat, ix = k := ⟨ix.toNat, by omega⟩
                obtain ⟨hk1, -, -⟩ := splitB_at 93 t k hix
                have hk0 : k ≠ 0 := by
                  intro q; subst q
                  obtain ⟨a, r, rfl⟩ := List.exists_cons_of_ne_nil hne'
                  rw [Lib.indexByte] at hix
                  have : a = 91 := by simpa using h91
                  subst this
                  simp at hix
                  have := Lib.indexByte_ge r 93
                  split at hix <;> omega
                have hk2 : k ≤ t.length := by omega
                have hk3 : (1 : Int) ≤ k := by omega
                have hk4 : min k t.length - 1 ≤ 1000000 := by omega
                have hk5 : min k t.length - 1 ≤ LI := by simp only [LI]; omega
                have hk6 : IntKind.i64.wrap ((k : Int) + 1) = (k : Int) + 1 := wrap_in (by omega) (by omega)
                have hk7 : k ≤ 1000001 := by omega
                have hk8 : k ≤ 2305843009213693952 := by omega
                simp only [Int.toNat_natCast, List.drop_one] at hst
                simp +contextual -implicitDefEqProofs [g0, g4, hpos, hk2, hk3, callA_fix hS, callA_fix hR, G_glob_set, G_printable, hk4, hk5, hk6, hk7, hk8, setV]
                refine Ck_mk ?_ ?_ <;> intro hq7
                · rw [if_neg (by intro q; simp only [Bool.and_eq_true, List.all_eq_true] at q; simp [q.1] at hq7; try grind)] at hst
                  subst hst
                  simp +contextual -implicitDefEqProofs
                  rw [snap_tup (by intro y hy; simp at hy; rcases hy with rfl | rfl <;> simp)]
                  rw [← hv, parseV, h2, parseS_none hne' hst0]
                  simp
                · rw [if_pos (by rw [Bool.and_eq_true]; simp at hq7; exact ⟨hq7.1, List.all_eq_true.2 hq7.2⟩)] at hst
                  subst hst
                  simp +contextual -implicitDefEqProofs [hk6]
                  exact ⟨.set _ _, k + 1, hst0, rfl, by simp [g0], by simp [g4], by simp, by simp, by simp [encP], hO.keep (Nat.le_refl _) fun j _ hj => by simp [show ¬ j = n by omega]⟩
            · have h5 : ¬ (t.headD 0 == 91) = true := by rw [hhd]; simp at hq5; simp; intro q; rw [q] at hq5; simp at hq5
              rw [if_neg h5] at hst
              subst hst
              simp +contextual -implicitDefEqProofs [g0, g4, hpos]
              exact ⟨.ch (t.headD 0), 1, hst0, rfl, by simp [g0], by simp [g4], by simp, by simp, by simp only [encP, hhd]; simp, hO.keep (Nat.le_refl _) fun j _ hj => by simp [show ¬ j = n by omega]⟩
    · rintro env n' h ⟨x, k, hx, rfl, k0, k4, k5, k6, kh, kO⟩
      obtain ⟨hk1, hk2⟩ := elStep_le hne' hx
      have hxl : (encP x).length = 4 := by cases x <;> rfl
      have hx1 : (encP x).all AV.one = true := by cases x <;> simp [encP]
      obtain ⟨v', ws, e, o', hk, -⟩ := Own.append (n := n + 2) (x := .arr (n + 1) 0 1 1 4 false) (new := [encP x]) (kO.keep (h' := upd h (n + 1) (.row [encP x] false)) (Nat.le_refl _) fun j _ hj => by simp [show ¬ j = n + 1 by omega]) (by omega) (by omega) (by simp [elsOf]) (by simp) (by simp [lenLim]; omega)
      simp +contextual -implicitDefEqProofs [k0, k4, k5, k6, kh, hxl, hx1, take_all hxl, fillE, e, hk2]
      refine ⟨(t.drop k).length, by simp; omega, t.drop k, ds ++ [x], v', rfl, by simp; omega, by rw [h2, parseS_some hne' hx]; cases parseS (t.drop k) <;> simp, by simp, by simp, ?_⟩
      simp only [List.map_append, List.map_cons, List.map_nil]
      exact Or.inr o'
  · obtain rfl : t = [] := by simpa using hne
    obtain ⟨ids, q⟩ := hO.snap (encP_fix ds) 9
    simp +contextual -implicitDefEqProofs [g4]
    rw [snap_tupE]
    simp only [snapLf, q, (Fix1.bool true).snap h 10]
    rw [← hv, parseV, h2, parseS_nil]
    simp
/-- The errors of patterns. -/
def globErr (s : List UInt8) : Int := if s.length > 60 then 4 else if (parseS s).isSome then 0 else 3
def G_glob_Right : List AV → Option AV
  | [.str s] => some (.int .i64 (globErr s))
  | _ => none
theorem w_glob_Right {C : Ctx} (hP : C.TP i_glob_parse = some G_glob_parse) (s : List UInt8) : FnW C c_glob_Right r_glob_Right [.str s] (.int .i64 (globErr s)) := by
  unfold FnW c_glob_Right r_glob_Right
  generalize hv : AV.int .i64 (globErr s) = v
  simp +contextual -implicitDefEqProofs
  refine Ck_mk ?_ ?_ <;> intro hq
  · have : s.length > 60 := by simp at hq; omega
    simp +contextual -implicitDefEqProofs
    rw [← hv, globErr, if_pos this]
  · have h60 : ¬ s.length > 60 := by simp at hq; omega
    have h6 : s.length ≤ 1000000 := by omega
    simp +contextual -implicitDefEqProofs [callA_fix hP, G_glob_parse, h6]
    cases hp : parseS s with
    | none =>
      simp +contextual -implicitDefEqProofs [parseV, hp]
      rw [← hv, globErr, if_neg h60, hp]; rfl
    | some l =>
      simp +contextual -implicitDefEqProofs [parseV, hp]
      rw [← hv, globErr, if_neg h60, hp]; rfl
end Go.Pv.T
