/- A part of the proof that AccessRights returns true wherever its input is of bulk at most 1048576: what the functions that it reaches answer. No theorem of the claim stands here. -/
import Derived.Test.YtedapkgjicmhjaaGreatDoorSd
namespace Go.Pv.T
open Go Go.Pv
set_option linter.unusedSimpArgs false
set_option linter.unusedVariables false

/-! ### maps from names -/
/-- A map's entries: names, each with a value. -/
def MapS (es : List (AV × AV × Nat)) (ks : List (Nm × AV)) : Prop := es.map (fun e => (e.1, e.2.1)) = ks.map fun k => (.str k.1, k.2)
def valS (ks : List (Nm × AV)) (s : Nm) : Option AV := (ks.find? fun k => s == k.1).map (·.2)
theorem findA_S {s : Nm} : ∀ {es : List (AV × AV × Nat)} {ks : List (Nm × AV)} (i : Nat), MapS es ks → (valS ks s = none ∧ findA (.str s) es i = some none) ∨ ∃ j v, valS ks s = some v ∧ findA (.str s) es i = some (some (i + j, v)) ∧ j < ks.length ∧ MapS (es.modify j fun e => (.str s, e.2.1, e.2.2)) ks ∧ ∀ w, MapS (es.modify j fun e => (.str s, w, e.2.2)) (ks.modify j fun k => (k.1, w)) ∧ ∃ v0, ks[j]? = some (s, v0) ∧ ∀ i, i < j → ∀ k, ks[i]? = some k → k.1 ≠ s := by
  intro es
  induction es with
  | nil =>
    intro ks i h
    cases ks with
    | nil => exact .inl ⟨rfl, rfl⟩
    | cons k r => simp [MapS] at h
  | cons e r ih =>
    intro ks i h
    cases ks with
    | nil => simp [MapS] at h
    | cons k ks =>
      simp only [MapS, List.map_cons, List.cons.injEq, Prod.mk.injEq] at h
      obtain ⟨⟨h1, h2⟩, h3⟩ := h
      obtain ⟨ek, ev, eb⟩ := e
      simp only at h1 h2
      subst h1 h2
      by_cases hs : s = k.1
      · refine .inr ⟨0, k.2, by simp [valS, hs], by simp [findA, keyEq, eq1, hs], by simp, by simp [MapS, hs]; exact h3, fun w => ⟨by simp [MapS, hs]; exact h3, k.2, by simp [hs], fun i hi => absurd hi (Nat.not_lt_zero i)⟩⟩
      · have hb : (s == k.1) = false := beq_eq_false_iff_ne.2 hs
        rcases ih (i + 1) (show MapS r ks from h3) with ⟨q1, q2⟩ | ⟨j, v, q1, q2, q3, q4, q5⟩
        · exact .inl ⟨by simp [valS, hb]; simpa [valS] using q1, by simp [findA, keyEq, eq1, hb, q2]⟩
        · refine .inr ⟨j + 1, v, by simp [valS, hb]; simpa [valS] using q1, by simp [findA, keyEq, eq1, hb, q2]; omega, by simp; omega, by simp [MapS]; exact q4, fun w => ⟨by simp [MapS]; exact (q5 w).1, ?_⟩⟩
          obtain ⟨-, v0, r1, r2⟩ := q5 w
          refine ⟨v0, by simpa using r1, fun i hi k' hk' => ?_⟩
          cases i with
          | zero => simp at hk'; subst hk'; exact fun e => hs e.symm
          | succ i => exact r2 i (by omega) k' (by simpa using hk')
theorem MapS.snoc {es : List (AV × AV × Nat)} {ks : List (Nm × AV)} (h : MapS es ks) (s : Nm) (v : AV) (b : Nat) : MapS (es ++ [(.str s, v, b)]) (ks ++ [(s, v)]) := by
  simp only [MapS, List.map_append, List.map_cons, List.map_nil] at h ⊢
  rw [h]
theorem lookup_S {es : List (AV × AV × Nat)} {ks : List (Nm × AV)} {clk : Nat} {h : Hp} {mid : Nat} (hm : h mid = .map es clk) (hS : MapS es ks) (z : AV) (s : Nm) : lookupC (.one .s) z false h (.map mid) (.str s) = some ((valS ks s).getD z) ∧ lookupC (.one .s) z true h (.map mid) (.str s) = some (.tup [(valS ks s).getD z, .bool (valS ks s).isSome]) := by
  have hk : keyC (.one .s) (.str s) = true := rfl
  rcases findA_S (s := s) 0 hS with ⟨q1, q2⟩ | ⟨j, v, q1, q2, _⟩
  · simp [lookupC, hk, hm, q2, q1]
  · simp [lookupC, hk, hm, q2, q1]
/-- When the entries came; no key comes twice. -/
structure Born (es : List (AV × AV × Nat)) (clk : Nat) : Prop where
  lt : ∀ e ∈ es, e.2.2 < clk
  nd : (es.map (·.2.2)).Nodup
  ky : (es.map (·.1)).Nodup
theorem Born.nil {clk : Nat} : Born [] clk := ⟨by simp, by simp, by simp⟩
theorem Born.snoc {es : List (AV × AV × Nat)} {clk : Nat} (b : Born es clk) {k : AV} (v : AV) (hk : k ∉ es.map (·.1)) : Born (es ++ [(k, v, clk)]) (clk + 1) := by
  refine ⟨fun e he => ?_, ?_, ?_⟩
  · rw [List.mem_append] at he
    rcases he with he | he
    · have := b.lt e he; omega
    · simp at he; subst he; simp
  · rw [List.map_append, List.nodup_append]
    refine ⟨b.nd, by simp, fun x hx y hy => ?_⟩
    simp at hy
    subst hy
    rw [List.mem_map] at hx
    obtain ⟨e, he, rfl⟩ := hx
    have := b.lt e he; omega
  · rw [List.map_append, List.nodup_append]
    refine ⟨b.ky, by simp, fun x hx y hy e => ?_⟩
    simp at hy
    subst hy
    subst e
    exact hk hx
theorem modify_map {α β : Type} {g : α → β} {f : α → α} {l : List α} {j : Nat} (h : ∀ x, l[j]? = some x → g (f x) = g x) : (l.modify j f).map g = l.map g := by
  apply List.ext_getElem?
  intro i
  simp only [List.getElem?_map, List.getElem?_modify]
  by_cases hij : j = i
  · subst hij
    simp only [if_true]
    cases hx : l[j]? with
    | none => rfl
    | some x => simp [h x hx]
  · simp [hij]
theorem Born.modify {es : List (AV × AV × Nat)} {clk j : Nat} (b : Born es clk) {k : AV} (v : AV) (hk : ∀ x, es[j]? = some x → x.1 = k) : Born (es.modify j fun e => (k, v, e.2.2)) clk := by
  have h : (es.modify j fun e => (k, v, e.2.2)).map (·.2.2) = es.map (·.2.2) := modify_map fun x _ => rfl
  refine ⟨fun e he => ?_, by rw [h]; exact b.nd, ?_⟩
  · have : e.2.2 ∈ (es.modify j fun e => (k, v, e.2.2)).map (·.2.2) := List.mem_map_of_mem he
    rw [h, List.mem_map] at this
    obtain ⟨e', he', q⟩ := this
    rw [← q]; exact b.lt e' he'
  · rw [modify_map (g := fun e : AV × AV × Nat => e.1) fun x hx => (hk x hx).symm]
    exact b.ky
theorem MapS.keys {es : List (AV × AV × Nat)} {ks : List (Nm × AV)} (h : MapS es ks) : es.map (·.1) = ks.map fun k => AV.str k.1 := by
  have := congrArg (List.map (fun x : AV × AV => x.1)) h
  rw [List.map_map, List.map_map] at this
  exact this
theorem mapUpd_S {es : List (AV × AV × Nat)} {ks : List (Nm × AV)} {clk : Nat} {h : Hp} {mid : Nat} (hm : h mid = .map es clk) (hS : MapS es ks) (s : Nm) (v : AV) : ∃ es' ks' clk', mapUpdC (.one .s) h (.map mid) (.str s) v = some (mid, .map es' clk') ∧ MapS es' ks' ∧ valS ks' s = some v ∧ (∀ t, t ≠ s → valS ks' t = valS ks t) ∧ (Born es clk → Born es' clk') := by
  have hk : keyC (.one .s) (.str s) = true := rfl
  rcases findA_S (s := s) 0 hS with ⟨q1, q2⟩ | ⟨j, v0, q1, q2, q3, q4, q5⟩
  · refine ⟨es ++ [(.str s, v, clk)], ks ++ [(s, v)], clk + 1, by simp [mapUpdC, hk, hm, q2], hS.snoc s v clk, ?_, fun t ht => ?_, fun b => b.snoc _ ?_⟩
    · have : ks.find? (fun k => s == k.1) = none := by simpa [valS] using q1
      simp [valS, List.find?_append, this]
    · have : (t == s) = false := beq_eq_false_iff_ne.2 ht
      simp [valS, List.find?_append, this]
    · rw [hS.keys]
      intro q
      rw [List.mem_map] at q
      obtain ⟨k, hk1, hk2⟩ := q
      have : ks.find? (fun k => s == k.1) = none := by simpa [valS] using q1
      have := List.find?_eq_none.1 this k hk1
      simp only [AV.str.injEq] at hk2
      exact this (by simp [hk2])
  · obtain ⟨r1, v1, r2, r3⟩ := q5 v
    refine ⟨_, _, clk, by simp only [mapUpdC, hk, hm, q2, if_true, Nat.zero_add], r1, ?_, fun t ht => ?_, fun b => b.modify _ fun x hx => ?_⟩
    · have : (ks.modify j fun k => (k.1, v)).find? (fun k => s == k.1) = some (s, v) := by
        refine find_first (i := j) (by rw [List.getElem?_modify]; simp [r2]) (by simp) fun i hi x hx => ?_
        rw [List.getElem?_modify] at hx
        have hij : ¬ j = i := by omega
        simp [hij] at hx
        have := r3 i hi x hx
        simp; exact fun e => this e.symm
      simp [valS, this]
    · have key : ∀ (ks : List (Nm × AV)) (j : Nat), ks[j]? = some (s, v1) → ((ks.modify j fun k => (k.1, v)).find? (fun k => t == k.1)).map (·.2) = (ks.find? fun k => t == k.1).map (·.2) := by
        intro ks
        induction ks with
        | nil => intro j h; simp at h
        | cons k r ih =>
          intro j h
          cases j with
          | zero =>
            simp at h; subst h
            have : (t == s) = false := beq_eq_false_iff_ne.2 ht
            simp [this]
          | succ j =>
            have := ih j (by simpa using h)
            by_cases hk : t == k.1
            · simp [hk]
            · simp [hk]; simpa using this
      exact key ks j r2
    · have h1 : (es.map (·.1))[j]? = some (.str s) := by rw [hS.keys, List.getElem?_map, r2]; rfl
      rw [List.getElem?_map, hx] at h1
      simpa using h1
/-! ### groups that a group contains: the program -/
/-- What the map says. -/
def InM (ks : List (Nm × AV)) (s : Nm) : Prop := valS ks s = some (.bool true)
def TrueM (ks : List (Nm × AV)) : Prop := ∀ s v, valS ks s = some v → v = .bool true
theorem TrueM.or {ks} (h : TrueM ks) (s : Nm) : (InM ks s ∧ (valS ks s).getD (.bool false) = .bool true) ∨ (¬ InM ks s ∧ (valS ks s).getD (.bool false) = .bool false) := by
  unfold InM
  cases hv : valS ks s with
  | none => exact .inr ⟨by simp, rfl⟩
  | some v => have := h s v hv; subst this; exact .inl ⟨rfl, rfl⟩
open Classical in
/-- How many names are not yet in the map. -/
noncomputable def rem (l : List Group) (ks : List (Nm × AV)) : Nat := (univ l).countP fun s => decide (¬ InM ks s)
theorem rem_le {l : List Group} (h : Small l) (ks : List (Nm × AV)) : rem l ks ≤ 256 := Nat.le_trans List.countP_le_length (univ_len h)
open Classical in
theorem rem_mono {l : List Group} {ks ks' : List (Nm × AV)} (h : ∀ s, InM ks s → InM ks' s) : rem l ks' ≤ rem l ks := by
  unfold rem
  exact List.countP_mono_left fun s _ hs => by simp at hs ⊢; exact fun q => hs (h s q)
theorem countP_eq' {α : Type} {p q : α → Bool} {l : List α} (h : ∀ x ∈ l, p x = true → q x = true) (hc : l.countP q ≤ l.countP p) : ∀ x ∈ l, q x = true → p x = true := countP_eq h hc
open Classical in
theorem rem_lt {l : List Group} {ks ks' : List (Nm × AV)} (h : ∀ s, InM ks s → InM ks' s) {c : Nm} (hc : c ∈ univ l) (h1 : ¬ InM ks c) (h2 : InM ks' c) : rem l ks' < rem l ks := by
  have hle := rem_mono (l := l) h
  by_cases he : rem l ks ≤ rem l ks'
  · have := countP_eq' (l := univ l) (p := fun s => decide (¬ InM ks' s)) (q := fun s => decide (¬ InM ks s)) (fun s _ hs => by simp at hs ⊢; exact fun q => hs (h s q)) he c hc (by simpa using h1)
    simp at this
    exact absurd h2 this
  · omega
/-- What the closure's memory holds. -/
structure Mem (h : Hp) (n il im ip mid : Nat) (f : FuncId) (x : AV) (ks : List (Nm × AV)) : Prop where
  lt : (il < n ∧ im < n ∧ ip < n ∧ mid < n) ∧ mid ≠ il ∧ mid ≠ im ∧ mid ≠ ip
  hl : ∃ fr, h il = .row [[x]] fr
  hm : ∃ fr, h im = .row [[.map mid]] fr
  hf : ∃ fr, h ip = .row [[.fn f [.ptr il 0 0, .ptr im 0 0, .ptr ip 0 0]]] fr
  hmap : ∃ es clk, h mid = .map es clk ∧ MapS es ks ∧ Born es clk
theorem Mem.keep {h h' : Hp} {n n' il im ip mid : Nat} {f : FuncId} {x : AV} {ks : List (Nm × AV)} (m : Mem h n il im ip mid f x ks) (hn : n ≤ n') (hh : ∀ j, j < n → h' j = h j) : Mem h' n' il im ip mid f x ks := by
  obtain ⟨⟨⟨a1, a2, a3, a4⟩, a5⟩, b1, b2, b3, b4⟩ := m
  exact ⟨⟨⟨by omega, by omega, by omega, by omega⟩, a5⟩, by rw [hh _ a1]; exact b1, by rw [hh _ a2]; exact b2, by rw [hh _ a3]; exact b3, by rw [hh _ a4]; exact b4⟩
/-- What a visit leaves. -/
def PostC (l : List Group) (nm : Nm) (ks : List (Nm × AV)) (n0 : Nat) (h0 : Hp) (il im ip mid : Nat) (f : FuncId) (x v : AV) (n : Nat) (h : Hp) : Prop :=
  v = .tup [] ∧ n0 ≤ n ∧ (∀ j, j < n0 → j ≠ mid → h j = h0 j) ∧ ∃ ks', Mem h n il im ip mid f x ks' ∧ TrueM ks' ∧ (∀ s, InM ks s → InM ks' s) ∧ (∀ c ∈ childs l nm, InM ks' c) ∧ ∀ y, InM ks' y → InM ks y ∨ (Reach l nm y ∧ ∀ c ∈ childs l y, InM ks' c)
def VisC (C : Ctx) (k : Nat) (l : List Group) (x : AV) : Prop := ∀ nm ks n h il im ip mid, Mem h n il im ip mid i_group_contained_d1 x ks → TrueM ks → rem l ks < k → ∃ v ws n', C.TI i_group_contained_d1 [.str nm, .ptr il 0 0, .ptr im 0 0, .ptr ip 0 0] n h = some (v, ws, n') ∧ PostC l nm ks n h il im ip mid i_group_contained_d1 x v n' (updW h ws)
theorem w_contained_d1 {C : Ctx} {k : Nat} {x : AV} {l : List Group} (hF : C.TP i_group_find = some G_find) (hN : C.TP i_group_contained_d1 = none) (hx : dGroups x = some l) (hs : Small l) (hV : VisC C k l x) (nm : Nm) (ks : List (Nm × AV)) (n : Nat) (h : Hp) (il im ip mid : Nat)
    (hM : Mem h n il im ip mid i_group_contained_d1 x ks) (hT : TrueM ks) (hr : rem l ks < k + 1) : FnI C c_group_contained_d1 r_group_contained_d1 [.str nm, .ptr il 0 0, .ptr im 0 0, .ptr ip 0 0] n h (PostC l nm ks n h il im ip mid i_group_contained_d1 x) := by
  unfold FnI c_group_contained_d1 r_group_contained_d1
  have hll : l.length ≤ LI := by have := hs.1; simp only [LI]; omega
  obtain ⟨fc, hf1, hf2⟩ := G_find_of hx hll nm
  have hch : ((fnd l nm).getD z0).groups = childs l nm := by unfold childs; cases fnd l nm <;> rfl
  have hfo := dGroup_ones hf2
  have hfl := dGroup_len hf2
  obtain ⟨u, gs, rfl, a1, a2, a3, a4⟩ := dGroup_inv hf2
  rw [hch] at a2 a4
  obtain ⟨fr1, m1⟩ := hM.hl
  generalize hP : PostC l nm ks n h il im ip mid i_group_contained_d1 x = P
  obtain ⟨⟨l1, l2, l3, l4⟩, n1, n2, n3⟩ := hM.lt
  simp +contextual -implicitDefEqProofs [m1, callA_fix hF, dSl_fix hx, hf1, hfo, hfl, dSl_len a2]
  have hMk : Mem (upd (upd h n (.row [[.str [], .nils, .nils]] false)) n (.row [[.str ((fnd l nm).getD z0).name, u, gs]] false)) (n + 1) il im ip mid i_group_contained_d1 x ks := hM.keep (by omega) fun j hj => by simp [show ¬ j = n by omega]
  obtain ⟨J, hJ⟩ : ∃ J : Nat → Env → Nat → Hp → Prop, J = fun j env n' h' => FE env [(2, .ptr im 0 0), (3, .ptr ip 0 0), (16, gs), (17, .int .i64 (childs l nm).length)] ∧ n ≤ n' ∧ (∀ i, i < n → i ≠ mid → h' i = h i) ∧
      ∃ ksj, Mem h' n' il im ip mid i_group_contained_d1 x ksj ∧ TrueM ksj ∧ (∀ s, InM ks s → InM ksj s) ∧ (∀ c ∈ (childs l nm).take j, InM ksj c) ∧ ∀ y, InM ksj y → InM ks y ∨ (Reach l nm y ∧ ∀ c ∈ childs l y, InM ksj c) := ⟨_, rfl⟩
  refine Wk_scan (childs l nm).length 18 0 J a4 (Nat.zero_le _) (by simp) (hJ ▸ ⟨by simp, by omega, fun i hi _ => by simp [show ¬ i = n by omega], ks, hMk, hT, fun _ q => q, by simp, fun y q => .inl q⟩) ?_ ?_
  · intro j env n' h' _ hj hw ej hjj
    rw [hJ] at hjj
    obtain ⟨fe, hnn, hkeep, ksj, hMj, hTj, hsub, htk, hy⟩ := hjj
    simp only [FE_cons, FE_nil, and_true] at fe
    obtain ⟨ca, q1, q2⟩ := dSl_at a2 hj
    obtain rfl := dStr_inv q2
    have hcm : (childs l nm)[j] ∈ childs l nm := List.getElem_mem hj
    generalize hcc : (childs l nm)[j] = c at q1 q2 hcm
    have htk' : ∀ (ks' : List (Nm × AV)), (∀ s, InM ksj s → InM ks' s) → InM ks' c → ∀ y ∈ (childs l nm).take (j + 1), InM ks' y := by
      intro ks' h1 h2 y hy
      rw [List.take_succ_eq_append_getElem hj, List.mem_append, List.mem_singleton] at hy
      rcases hy with hy | rfl
      · exact h1 _ (htk y hy)
      · exact hcc ▸ h2
    obtain ⟨fr2, m2⟩ := hMj.hm
    obtain ⟨fr3, m3⟩ := hMj.hf
    obtain ⟨es, clk, m4, m5, mb⟩ := hMj.hmap
    obtain ⟨lk, -⟩ := lookup_S m4 m5 (.bool false) c
    rcases hTj.or c with ⟨o1, o2⟩ | ⟨o1, o2⟩
    · rw [o2] at lk
      simp +contextual -implicitDefEqProofs [ej, fe, hj, q1, m2, lk, hw]
      rw [hJ]
      exact ⟨by simp [fe], hnn, hkeep, ksj, hMj, hTj, hsub, htk' ksj (fun _ q => q) o1, hy⟩
    · rw [o2] at lk
      obtain ⟨es', ks', clk', mu, mS, mv, mo, mB⟩ := mapUpd_S m4 m5 c (.bool true)
      have hsub' : ∀ s, InM ksj s → InM ks' s := fun s q => by
        by_cases e : s = c
        · exact e ▸ mv
        · unfold InM; rw [mo s e]; exact q
      have hnew : ∀ s, InM ks' s → s = c ∨ InM ksj s := fun s q => by
        by_cases e : s = c
        · exact .inl e
        · unfold InM at q; rw [mo s e] at q; exact .inr q
      obtain ⟨⟨b1, b2, b3, b4⟩, b5, b6, b7⟩ := hMj.lt
      have hM1 : Mem (upd h' mid (.map es' clk')) n' il im ip mid i_group_contained_d1 x ks' := by
        refine ⟨⟨⟨b1, b2, b3, b4⟩, b5, b6, b7⟩, ?_, ?_, ?_, ⟨es', clk', by simp, mS, mB mb⟩⟩
        · obtain ⟨fr, q⟩ := hMj.hl; exact ⟨fr, by simp [Ne.symm b5, q]⟩
        · exact ⟨fr2, by simp [Ne.symm b6, m2]⟩
        · exact ⟨fr3, by simp [Ne.symm b7, m3]⟩
      have hT1 : TrueM ks' := fun s w q => by
        by_cases e : s = c
        · rw [e, mv] at q; cases q; rfl
        · rw [mo s e] at q; exact hTj s w q
      have hr1 : rem l ks' < k := by
        have := rem_lt (l := l) hsub' (childs_univ hcm) o1 mv
        have := rem_mono (l := l) hsub
        omega
      obtain ⟨v, ws, n2', e2, rfl, p2, p3, ks2, p4, p5, p6, p7, p8⟩ := hV c ks' n' _ il im ip mid hM1 hT1 hr1
      have hip : ¬ ip = mid := fun q => b7 q.symm
      simp +contextual -implicitDefEqProofs [ej, fe, hj, q1, m2, lk, mu]
      simp +contextual -implicitDefEqProofs [ej, fe, hj, q1, m2, m3, lk, mu, hip, callA_imp hN, e2, hw]
      rw [hJ]
      refine ⟨by simp [fe], by omega, fun i hi hne => ?_, ks2, p4, p5, fun s q => p6 s (hsub' s (hsub s q)), htk' ks2 (fun s q => p6 s (hsub' s q)) (p6 c mv), fun y q => ?_⟩
      · rw [p3 i (by omega) hne, upd_get, if_neg hne, hkeep i hi hne]
      · rcases p8 y q with r | ⟨r1, r2⟩
        · rcases hnew y r with rfl | r
          · exact .inr ⟨.one hcm, p7⟩
          · rcases hy y r with r | ⟨r1, r2⟩
            · exact .inl r
            · exact .inr ⟨r1, fun c' hc' => p6 c' (hsub' c' (r2 c' hc'))⟩
        · exact .inr ⟨.step hcm r1, r2⟩
  · intro env n' h' ej hjj
    rw [hJ] at hjj
    obtain ⟨fe, hnn, hkeep, ksj, hMj, hTj, hsub, htk, hy⟩ := hjj
    simp only [FE_cons, FE_nil, and_true] at fe
    rw [List.take_length] at htk
    simp +contextual -implicitDefEqProofs [ej, fe]
    rw [← hP]
    exact ⟨rfl, hnn, hkeep, ksj, hMj, hTj, hsub, htk, hy⟩
end Go.Pv.T
namespace Go.Pv.T
open Go Go.Pv
set_option linter.unusedSimpArgs false
set_option linter.unusedVariables false

theorem Good.addI' {C0 Ck : Ctx} (g0 : Good C0) (gk : Good Ck) (hP : Ck.P = C0.P) (hgl : Ck.gl = C0.gl) {f : FuncId} {cc : CC} {r : List RX} (hf : Fx C0.P f cc r) : Good (C0.addI f (fnT Ck cc r)) := by
  refine ⟨g0.tab.addI ?_, g0.ord⟩
  have := IS.of gk.tab gk.ord (f := f) (cc := cc) (r := r) (by rw [hP]; exact hf)
  rwa [hP, hgl] at this
/-- The closure's entry, to a depth. -/
noncomputable def lev (C0 : Ctx) (f : FuncId) (cc : CC) (r : List RX) : Nat → Ctx
  | 0 => C0
  | k + 1 => C0.addI f (fnT (lev C0 f cc r k) cc r)
theorem lev_P {C0 : Ctx} {f cc r} : ∀ k, (lev C0 f cc r k).P = C0.P ∧ (lev C0 f cc r k).gl = C0.gl ∧ (lev C0 f cc r k).TP = C0.TP := by
  intro k; cases k <;> exact ⟨rfl, rfl, rfl⟩
theorem lev_good {C0 : Ctx} (g : Good C0) {f : FuncId} {cc : CC} {r : List RX} (hf : Fx C0.P f cc r) : ∀ k, Good (lev C0 f cc r k) := by
  intro k
  induction k with
  | zero => exact g
  | succ k ih => exact Good.addI' g ih (lev_P k).1 (lev_P k).2.1 hf
theorem lev_TI {C0 : Ctx} {f : FuncId} {cc : CC} {r : List RX} (k : Nat) : (lev C0 f cc r (k + 1)).TI f = fnT (lev C0 f cc r k) cc r := by simp [lev, Ctx.addI]
theorem visC {C0 : Ctx} (hF : C0.TP i_group_find = some G_find) (hN : C0.TP i_group_contained_d1 = none) {x : AV} {l : List Group} (hx : dGroups x = some l) (hs : Small l) : ∀ k, VisC (lev C0 i_group_contained_d1 c_group_contained_d1 r_group_contained_d1 k) k l x := by
  intro k
  induction k with
  | zero => intro nm ks n h il im ip mid _ _ hr; omega
  | succ k ih =>
    intro nm ks n h il im ip mid hM hT hr
    rw [lev_TI]
    exact (w_contained_d1 (C := lev C0 _ _ _ k) (by rw [(lev_P k).2.2]; exact hF) (by rw [(lev_P k).2.2]; exact hN) hx hs ih nm ks n h il im ip mid hM hT hr).ok
/-- What 'contained' leaves. -/
def PostK (l : List Group) (nm : Nm) (n0 : Nat) (h0 : Hp) (v : AV) (n : Nat) (h : Hp) : Prop :=
  n0 ≤ n ∧ (∀ j, j < n0 → h j = h0 j) ∧ ∃ mid ks es clk, v = .map mid ∧ (n0 ≤ mid ∧ mid < n) ∧ h mid = .map es clk ∧ (MapS es ks ∧ Born es clk) ∧ TrueM ks ∧ ∀ y, InM ks y ↔ Reach l nm y
theorem w_contained {C : Ctx} {x : AV} {l : List Group} (hN : C.TP i_group_contained_d1 = none) (hx : dGroups x = some l) (hs : Small l) (hV : VisC C 257 l x) (nm : Nm) (n : Nat) (h : Hp) :
    FnI C c_group_contained r_group_contained [x, .str nm] n h (PostK l nm n h) := by
  unfold FnI c_group_contained r_group_contained
  generalize hP : PostK l nm n h = P
  simp +contextual -implicitDefEqProofs [boxA, dSl_one hx, dSl_cells hx, callA_imp hN]
  have h3 : ¬ n = n + 1 + 1 + 1 := by omega
  have h2 : ¬ n = n + 1 + 1 := by omega
  refine Sk_imp _ (hV nm [] (n + 1 + 1 + 1 + 1) _ n (n + 1 + 1) (n + 1 + 1 + 1) (n + 1) ⟨by omega, ⟨false, by simp [h2, h3]⟩, ⟨false, by simp⟩, ⟨false, by simp⟩, ⟨[], 0, by simp, rfl, Born.nil⟩⟩ (fun s v q => by cases q) (by have := rem_le hs []; omega)) ?_
  rintro v ws n' ⟨rfl, p1, p2, ks, p3, p4, p5, p6, p7⟩
  obtain ⟨fr, m2⟩ := p3.hm
  obtain ⟨es, clk, m4, m5, mb⟩ := p3.hmap
  have q2 := p2
  generalize updW _ ws = H at *
  simp +contextual -implicitDefEqProofs [m2]
  rw [← hP]
  refine ⟨by omega, fun j hj => ?_, n + 1, ks, es, clk, rfl, ⟨by omega, by omega⟩, m4, ⟨m5, mb⟩, p4, fun y => ⟨fun q => ?_, fun q => ?_⟩⟩
  · rw [p2 j (by omega) (by omega)]
    simp [show ¬ j = n by omega, show ¬ j = n + 1 by omega, show ¬ j = n + 1 + 1 by omega, show ¬ j = n + 1 + 1 + 1 by omega]
  · rcases p7 y q with r | r
    · cases r
    · exact r.1
  · have hcl : ∀ a, InM ks a → ∀ c ∈ childs l a, InM ks c := fun a ha c hc => by
      rcases p7 a ha with r | r
      · cases r
      · exact r.2 c hc
    have : ∀ a b, Reach l a b → (∀ c ∈ childs l a, InM ks c) → InM ks b := by
      intro a b hab
      induction hab with
      | one h => intro k; exact k _ h
      | step h _ ih => intro k; exact ih fun c hc => hcl _ (k _ h) c hc
    exact this nm y q p6
end Go.Pv.T
namespace Go.Pv.T
open Go Go.Pv
set_option linter.unusedSimpArgs false
set_option linter.unusedVariables false

/-! ### how deep: the program -/
theorem maxF_ge {f : Nm → Nat} {ns : List Nm} {n : Nm} (h : n ∈ ns) : f n ≤ maxF f ns := by
  unfold maxF
  have h1 : ∀ (ns : List Nm) (m0 : Nat), m0 ≤ ns.foldl (fun m n => max m (f n)) m0 := by
    intro ns
    induction ns with
    | nil => intro m0; exact Nat.le_refl _
    | cons a r ih => intro m0; exact Nat.le_trans (Nat.le_max_left _ _) (ih _)
  have h2 : ∀ (ns : List Nm) (m0 : Nat), n ∈ ns → f n ≤ ns.foldl (fun m n => max m (f n)) m0 := by
    intro ns
    induction ns with
    | nil => intro m0 h; simp at h
    | cons a r ih =>
      intro m0 h
      rcases List.mem_cons.1 h with rfl | h
      · exact Nat.le_trans (Nat.le_max_right _ _) (h1 r _)
      · exact ih _ h
  exact h2 ns 0 h
theorem depth_child {l : List Group} (hA : Acyc l) {nm c : Nm} (hc : c ∈ childs l nm) : depth l c < depth l nm := by
  unfold childs at hc
  split at hc
  · rename_i g hg
    have := depth_eq hA (nm := nm)
    rw [hg] at this
    simp only at this
    rw [this]
    have := maxF_ge (f := depth l) hc
    omega
  · simp at hc
def RightM (l : List Group) (b : Nat) (ks : List (Nm × AV)) : Prop := ∀ s w, valS ks s = some w → depth l s ≤ b → w = .int .i64 (depth l s)
def PostD (l : List Group) (nm : Nm) (ks : List (Nm × AV)) (n0 : Nat) (h0 : Hp) (il im ip mid : Nat) (f : FuncId) (x v : AV) (n : Nat) (h : Hp) : Prop :=
  v = .int .i64 (depth l nm) ∧ n0 ≤ n ∧ (∀ j, j < n0 → j ≠ mid → h j = h0 j) ∧ ∃ ks', Mem h n il im ip mid f x ks' ∧ ∀ s, valS ks' s = valS ks s ∨ valS ks' s = some (.int .i64 (depth l s))
def VisD (C : Ctx) (k : Nat) (l : List Group) (x : AV) : Prop := ∀ nm ks n h il im ip mid, Mem h n il im ip mid i_group_Depth_d1 x ks → RightM l (depth l nm) ks → depth l nm < k → ∃ v ws n', C.TI i_group_Depth_d1 [.str nm, .ptr il 0 0, .ptr im 0 0, .ptr ip 0 0] n h = some (v, ws, n') ∧ PostD l nm ks n h il im ip mid i_group_Depth_d1 x v n' (updW h ws)
theorem if_max (a b : Nat) : (if (a : Int) < (b : Int) then (b : Int) else (a : Int)) = ((max a b : Nat) : Int) := by
  split <;> omega
set_option maxHeartbeats 4000000 in
theorem w_Depth_d1 {C : Ctx} {k : Nat} {x : AV} {l : List Group} (hF : C.TP i_group_find = some G_find) (hN : C.TP i_group_Depth_d1 = none) (hx : dGroups x = some l) (hs : Small l) (hA : Acyc l) (hV : VisD C k l x) (nm : Nm) (ks : List (Nm × AV)) (n : Nat) (h : Hp) (il im ip mid : Nat)
    (hM : Mem h n il im ip mid i_group_Depth_d1 x ks) (hT : RightM l (depth l nm) ks) (hr : depth l nm < k + 1) : FnI C c_group_Depth_d1 r_group_Depth_d1 [.str nm, .ptr il 0 0, .ptr im 0 0, .ptr ip 0 0] n h (PostD l nm ks n h il im ip mid i_group_Depth_d1 x) := by
  unfold FnI c_group_Depth_d1 r_group_Depth_d1
  have hll : l.length ≤ LI := by have := hs.1; simp only [LI]; omega
  obtain ⟨fc, hf1, hf2⟩ := G_find_of hx hll nm
  have hfo := dGroup_ones hf2
  have hfl := dGroup_len hf2
  obtain ⟨u, gs, rfl, a1, a2, a3, a4⟩ := dGroup_inv hf2
  obtain ⟨fr1, m1⟩ := hM.hl
  generalize hP : PostD l nm ks n h il im ip mid i_group_Depth_d1 x = P
  obtain ⟨⟨l1, l2, l3, l4⟩, n1, n2, n3⟩ := hM.lt
  cases hfn : fnd l nm with
  | none =>
    rw [hfn] at hf1
    simp only [Option.isSome_none] at hf1
    simp +contextual -implicitDefEqProofs [m1, callA_fix hF, dSl_fix hx, hf1, dSl_one a1, dSl_one a2, hfn]
    rw [← hP]
    exact ⟨by rw [depth_none hfn]; rfl, by omega, fun j hj _ => by simp [show ¬ j = n by omega], ks, hM.keep (by omega) fun j hj => by simp [show ¬ j = n by omega], fun s => .inl rfl⟩
  | some g =>
    have hch : childs l nm = g.groups := childs_some hfn
    have hde := depth_eq hA (nm := nm)
    rw [hfn] at hf1 a2 a4 hfo hfl hde
    simp only [Option.isSome_some, Option.getD_some] at hf1 a2 a4 hfo hfl hde
    obtain ⟨fr2, m2⟩ := hM.hm
    obtain ⟨es, clk, m4, m5, mb⟩ := hM.hmap
    have hin : ¬ im = n := by omega
    have hmn : ¬ mid = n := by omega
    have hMk : Mem (upd (upd h n (.row [[.str [], .nils, .nils]] false)) n (.row [[.str ((fnd l nm).getD z0).name, u, gs]] false)) (n + 1) il im ip mid i_group_Depth_d1 x ks := hM.keep (by omega) fun j hj => by simp [show ¬ j = n by omega]
    rw [hfn] at hMk
    simp only [Option.getD_some] at hMk
    have lk2 := fun (hp : Hp) (hm : hp mid = .map es clk) => (lookup_S hm m5 (.int .i64 0) nm).2
    have lk := lk2 (upd (upd h n (.row [[.str [], .nils, .nils]] false)) n (.row [[.str g.name, u, gs]] false)) (by simp [hmn, m4])
    cases hvn : valS ks nm with
    | some w =>
      have hw := hT nm w hvn (Nat.le_refl _)
      rw [hvn] at lk
      simp only [Option.getD_some, Option.isSome_some] at lk
      simp +contextual -implicitDefEqProofs [m1, callA_fix hF, dSl_fix hx, hf1, dSl_one a1, dSl_one a2, hin, m2, lk]
      rw [← hP]
      exact ⟨hw, by omega, fun j hj _ => by simp [show ¬ j = n by omega], ks, hMk, fun s => .inl rfl⟩
    | none =>
      rw [hvn] at lk
      simp only [Option.getD_none, Option.isSome_none] at lk
      obtain ⟨es', ks1, clk', mu, mS, mv, mo, mB⟩ := mapUpd_S (h := upd (upd h n (.row [[.str [], .nils, .nils]] false)) n (.row [[.str g.name, u, gs]] false)) (mid := mid) (clk := clk) (by simp [hmn, m4]) m5 nm (.int .i64 0)
      simp +contextual -implicitDefEqProofs [m1, callA_fix hF, dSl_fix hx, hf1, dSl_one a1, dSl_one a2, hin, m2, lk, mu]
      have hmn' : ¬ n = mid := fun q => hmn q.symm
      have him : ¬ im = mid := fun q => n2 q.symm
      have hipm : ¬ ip = mid := fun q => n3 q.symm
      simp +contextual -implicitDefEqProofs [dSl_len a2, hmn']
      have hM1 : Mem (upd (upd (upd h n (.row [[.str [], .nils, .nils]] false)) n (.row [[.str g.name, u, gs]] false)) mid (.map es' clk')) (n + 1) il im ip mid i_group_Depth_d1 x ks1 := by
        obtain ⟨⟨b1, b2, b3, b4⟩, b5, b6, b7⟩ := hMk.lt
        refine ⟨⟨⟨b1, b2, b3, b4⟩, b5, b6, b7⟩, ?_, ?_, ?_, ⟨es', clk', by simp, mS, mB mb⟩⟩
        · obtain ⟨fr, q⟩ := hMk.hl; exact ⟨fr, by rw [upd_get, if_neg (Ne.symm b5)]; exact q⟩
        · obtain ⟨fr, q⟩ := hMk.hm; exact ⟨fr, by rw [upd_get, if_neg (Ne.symm b6)]; exact q⟩
        · obtain ⟨fr, q⟩ := hMk.hf; exact ⟨fr, by rw [upd_get, if_neg (Ne.symm b7)]; exact q⟩
      obtain ⟨J, hJ⟩ : ∃ J : Nat → Env → Nat → Hp → Prop, J = fun j env n' h' => FE env [(0, .str nm), (2, .ptr im 0 0), (3, .ptr ip 0 0), (10, .int .i64 (maxF (depth l) (g.groups.take j))), (32, gs), (33, .int .i64 g.groups.length)] ∧ n ≤ n' ∧ (∀ i, i < n → i ≠ mid → h' i = h i) ∧
          ∃ ksj, Mem h' n' il im ip mid i_group_Depth_d1 x ksj ∧ ∀ s, valS ksj s = valS ks1 s ∨ valS ksj s = some (.int .i64 (depth l s)) := ⟨_, rfl⟩
      refine Wk_scan g.groups.length 34 0 J a4 (Nat.zero_le _) (by simp) (hJ ▸ ⟨by simp [maxF], by omega, fun i hi hne => by simp [show ¬ i = n by omega, hne], ks1, hM1, fun s => .inl rfl⟩) ?_ ?_
      · intro j env n' h' _ hj hw ej hjj
        rw [hJ] at hjj
        obtain ⟨fe, hnn, hkeep, ksj, hMj, hval⟩ := hjj
        simp only [FE_cons, FE_nil, and_true] at fe
        obtain ⟨ca, q1, q2⟩ := dSl_at a2 hj
        obtain rfl := dStr_inv q2
        have hcm : g.groups[j] ∈ childs l nm := by rw [hch]; exact List.getElem_mem hj
        have hdc := depth_child hA hcm
        have hsn := maxF_snoc (depth l) g.groups j hj
        obtain ⟨fr3, m3⟩ := hMj.hf
        have hRj : RightM l (depth l g.groups[j]) ksj := fun s w hw hle => by
          rcases hval s with e | e
          · rw [e] at hw
            by_cases hsn : s = nm
            · subst hsn; omega
            · rw [mo s hsn] at hw
              exact hT s w hw (by omega)
          · rw [e] at hw; cases hw; rfl
        simp +contextual -implicitDefEqProofs [ej, fe, hj, q1, m3, callA_imp hN]
        refine Sk_imp _ (hV g.groups[j] ksj n' h' il im ip mid hMj hRj (by omega)) ?_
        rintro v ws n2' ⟨rfl, p2, p3, ks2, p4, p5⟩
        generalize updW h' ws = H at *
        simp +contextual -implicitDefEqProofs [ej, fe, hw]
        rw [hJ]
        refine ⟨?_, by omega, fun i hi hne => by rw [p3 i (by omega) hne, hkeep i hi hne], ks2, p4, fun s => ?_⟩
        · simp only [FE_cons, FE_nil, and_true]
          simp [fe]
          rw [hsn]; split <;> omega
        · rcases p5 s with e | e
          · rw [e]; exact hval s
          · exact .inr e
      · intro env n' h' ej hjj
        rw [hJ] at hjj
        obtain ⟨fe, hnn, hkeep, ksj, hMj, hval⟩ := hjj
        simp only [FE_cons, FE_nil, and_true, List.take_length] at fe
        have := depth_le l nm
        have := hs.1
        have hw : IntKind.i64.wrap ((maxF (depth l) g.groups : Int) + 1) = (depth l nm : Int) := by rw [wrap_in (by omega) (by omega), hde]; simp
        obtain ⟨fr2', m2'⟩ := hMj.hm
        obtain ⟨es2, clk2, m4', m5', mb'⟩ := hMj.hmap
        obtain ⟨es3, ks3, clk3, mu3, mS3, mv3, mo3, mB3⟩ := mapUpd_S m4' m5' nm (.int .i64 (depth l nm))
        simp +contextual -implicitDefEqProofs [ej, fe, m2', hw, mu3]
        rw [← hP]
        obtain ⟨⟨b1, b2, b3, b4⟩, b5, b6, b7⟩ := hMj.lt
        refine ⟨rfl, by omega, fun i hi hne => by simp [hne]; exact hkeep i hi hne, ks3, ⟨⟨⟨b1, b2, b3, b4⟩, b5, b6, b7⟩, ?_, ?_, ?_, ⟨es3, clk3, by simp, mS3, mB3 mb'⟩⟩, fun s => ?_⟩
        · obtain ⟨fr, q⟩ := hMj.hl; exact ⟨fr, by rw [upd_get, if_neg (Ne.symm b5)]; exact q⟩
        · obtain ⟨fr, q⟩ := hMj.hm; exact ⟨fr, by rw [upd_get, if_neg (Ne.symm b6)]; exact q⟩
        · obtain ⟨fr, q⟩ := hMj.hf; exact ⟨fr, by rw [upd_get, if_neg (Ne.symm b7)]; exact q⟩
        · by_cases hsn : s = nm
          · subst hsn; exact .inr mv3
          · rw [mo3 s hsn]
            rcases hval s with e | e
            · rw [e, mo s hsn]; exact .inl rfl
            · exact .inr e
theorem visD {C0 : Ctx} (hF : C0.TP i_group_find = some G_find) (hN : C0.TP i_group_Depth_d1 = none) {x : AV} {l : List Group} (hx : dGroups x = some l) (hs : Small l) (hA : Acyc l) : ∀ k, VisD (lev C0 i_group_Depth_d1 c_group_Depth_d1 r_group_Depth_d1 k) k l x := by
  intro k
  induction k with
  | zero => intro nm ks n h il im ip mid _ _ hr; omega
  | succ k ih =>
    intro nm ks n h il im ip mid hM hT hr
    rw [lev_TI]
    exact (w_Depth_d1 (C := lev C0 _ _ _ k) (by rw [(lev_P k).2.2]; exact hF) (by rw [(lev_P k).2.2]; exact hN) hx hs hA ih nm ks n h il im ip mid hM hT hr).ok
open Classical in
noncomputable def G_Depth : List AV → Option AV
  | [x, .str nm] => match dGroups x with
    | some l => if Small l ∧ Acyc l then some (.int .i64 (depth l nm)) else none
    | none => none
  | _ => none
theorem w_group_Depth {C : Ctx} {x : AV} {l : List Group} (hN : C.TP i_group_Depth_d1 = none) (hx : dGroups x = some l) (hs : Small l) (hV : VisD C 18 l x) (nm : Nm) : FnW C c_group_Depth r_group_Depth [x, .str nm] (.int .i64 (depth l nm)) := by
  unfold FnW c_group_Depth r_group_Depth
  generalize hv : AV.int .i64 (depth l nm) = v
  simp +contextual -implicitDefEqProofs [boxA, dSl_one hx, dSl_cells hx, callA_imp hN]
  refine Sk_imp _ (hV nm [] (0 + 1 + 1 + 1 + 1) _ 0 (0 + 1 + 1) (0 + 1 + 1 + 1) (0 + 1) ⟨by omega, ⟨false, by simp⟩, ⟨false, by simp⟩, ⟨false, by simp⟩, ⟨[], 0, by simp, rfl, Born.nil⟩⟩ (fun s v q => by cases q) (by have := depth_le l nm; have := hs.1; omega)) ?_
  rintro v' ws n' ⟨rfl, p1, p2, ks, p3, p4⟩
  generalize updW _ ws = H at *
  simp +contextual -implicitDefEqProofs
  exact hv
end Go.Pv.T
namespace Go.Pv.T
open Go Go.Pv
set_option linter.unusedSimpArgs false
set_option linter.unusedVariables false

/-- What is known of 'contained'. -/
def KnowC (C : Ctx) : Prop := C.TP i_group_contained = none ∧ ∀ x l, dGroups x = some l → Small l → ∀ nm n h, ∃ v ws n', C.TI i_group_contained [x, .str nm] n h = some (v, ws, n') ∧ PostK l nm n h v n' (updW h ws) ∧ ∀ w ∈ ws, updW h ws w.1 ≠ h w.1
set_option maxHeartbeats 4000000 in
theorem w_group_Right {C : Ctx} (hO : C.TP i_group_one = some G_one) (hK : KnowC C) (hD : C.TP i_group_Depth = some G_Depth)
    {x : AV} {l : List Group} (hx : dGroups x = some l) (hl : l.length ≤ LI) : FnW C c_group_Right r_group_Right [x] (.int .i64 (groupsErr l)) := by
  unfold FnW c_group_Right r_group_Right
  generalize hv : AV.int .i64 (groupsErr l) = v
  simp +contextual -implicitDefEqProofs [dSl_len hx]
  refine Ck_mk ?_ ?_ <;> intro hq
  · have : l.length > 16 := by simp at hq; omega
    simp +contextual -implicitDefEqProofs
    rw [← hv, groupsErr, if_pos this]
  · have h16 : ¬ l.length > 16 := by simp at hq; omega
    simp +contextual -implicitDefEqProofs [dSl_len hx]
    obtain ⟨J, hJ⟩ : ∃ J : Nat → Env → Nat → Hp → Prop, J = Scan [(0, x), (13, .int .i64 l.length)] [] fun j => oneAt l j = 0 := ⟨_, rfl⟩
    refine Wk_scan l.length 14 0 J hl (Nat.zero_le _) (by simp) (hJ ▸ ⟨by simp, by simp, Upto.zero⟩) ?_ ?_
    · intro i env n h _ hi hw ei hj
      rw [hJ] at hj
      obtain ⟨fe, -, hp⟩ := hj
      simp only [FE_cons, FE_nil, and_true] at fe
      have hG : G_one [x, .int .i64 i] = some (.int .i64 (oneErr l i l[i])) := by
        simp only [G_one, hx, Int.toNat_natCast, List.getElem?_eq_getElem hi]; rw [if_pos ⟨hl, by omega⟩]
      have hone : oneErr l i l[i] ≠ 0 → groupsErr l = oneErr l i l[i] := fun hne => by
        rw [← oneAt_get hi] at hne ⊢
        have := firstNZ_at (f := oneAt l) hp hne hi
        rw [groupsErr, if_neg h16, if_pos (by rw [oneAll, this]; exact hne), oneAll, this]
      simp +contextual -implicitDefEqProofs [ei, fe, hi, callA_fix hO, dSl_fix hx, hG]
      refine Ck_mk ?_ ?_ <;> intro hc
      · simp +contextual -implicitDefEqProofs
        rw [← hv, hone (by simpa using hc)]
      · simp +contextual -implicitDefEqProofs [ei, fe, hw]
        rw [hJ]
        exact ⟨by simp [fe], by simp, hp.succ (by rw [oneAt_get hi]; simpa using hc)⟩
    · intro env n h ei hj
      rw [hJ] at hj
      obtain ⟨fe, -, hp⟩ := hj
      simp only [FE_cons, FE_nil, and_true] at fe
      have hall : oneAll l = 0 := firstNZ_zero.2 hp
      have hs := small_of h16 hall
      simp +contextual -implicitDefEqProofs [ei, fe, dSl_len hx]
      clear hp hJ
      obtain ⟨J, hJ⟩ : ∃ J : Nat → Env → Nat → Hp → Prop, J = Scan [(0, x), (24, x), (25, .int .i64 l.length)] [] fun j => ∀ hj : j < l.length, ¬ Reach l l[j].name l[j].name := ⟨_, rfl⟩
      refine Wk_scan l.length 26 0 J hl (Nat.zero_le _) (by simp) (hJ ▸ ⟨by simp [fe], by simp, Upto.zero⟩) ?_ ?_
      · intro i env n h _ hi hw ei hj
        rw [hJ] at hj
        obtain ⟨fe, -, hp⟩ := hj
        simp only [FE_cons, FE_nil, and_true] at fe
        obtain ⟨cg, q3, q4⟩ := dSl_at hx hi
        obtain ⟨u, gs, rfl, a1, a2, a3, a4⟩ := dGroup_inv q4
        simp +contextual -implicitDefEqProofs [ei, fe, hi, q3, dSl_one a1, dSl_one a2, callA_imp hK.1]
        refine VSk_imp _ (hK.2 x l hx hs l[i].name (n + 1) _) ?_
        rintro v' ws n' ⟨⟨p1, p2, mid, ks, es, clk, rfl, p3, p4, p5, p6, p7⟩, p8⟩
        have hwn : ∀ (a : Nat) (y : AO), (a, y) ∈ ws → ¬ a = n := fun a y hy e => by
          subst e
          have := p8 (a, y) hy
          rw [p2 a (by omega)] at this
          exact this rfl
        have hn1 := p2 n (by omega)
        simp only [upd_get, if_true] at hn1
        generalize updW _ ws = H at *
        obtain ⟨lk, -⟩ := lookup_S p4 p5.1 (.bool false) l[i].name
        have hmn : ¬ mid = n := by omega
        have hmn' : ¬ n = mid := by omega
        rcases p6.or l[i].name with ⟨o1, o2⟩ | ⟨o1, o2⟩
        · rw [o2] at lk
          have hr : Reach l l[i].name l[i].name := (p7 _).1 o1
          simp +contextual -implicitDefEqProofs [hn1, lk, hmn, hmn', confL, pairsL, indL, rdI, Nat.testBit]
          refine ⟨hwn, ?_⟩
          rw [← hv, groupsErr, if_neg h16, if_neg (by simpa using hall), if_pos ⟨l[i], List.getElem_mem hi, hr⟩]
        · rw [o2] at lk
          simp +contextual -implicitDefEqProofs [hn1, lk, hmn, hmn', ei, fe, hw, confL, pairsL, indL, rdI, Nat.testBit]
          refine ⟨hwn, ?_⟩
          rw [hJ]
          exact ⟨by simp [fe], by simp, hp.succ fun _ hr => o1 ((p7 _).2 hr)⟩
      · intro env n h ei hj
        rw [hJ] at hj
        obtain ⟨fe, -, hp⟩ := hj
        simp only [FE_cons, FE_nil, and_true] at fe
        have hac : Acyc l := fun g hg => by obtain ⟨j, hj, rfl⟩ := List.mem_iff_getElem.1 hg; exact hp j hj hj
        have hnr : ¬ ∃ g ∈ l, Reach l g.name g.name := fun ⟨g, hg, q⟩ => hac g hg q
        simp +contextual -implicitDefEqProofs [ei, fe, dSl_len hx]
        clear hp hJ
        obtain ⟨J, hJ⟩ : ∃ J : Nat → Env → Nat → Hp → Prop, J = Scan [(0, x), (38, x), (39, .int .i64 l.length)] [] fun j => ∀ hj : j < l.length, decide (12 < depth l l[j].name) = false := ⟨_, rfl⟩
        refine Wk_scan l.length 40 0 J hl (Nat.zero_le _) (by simp) (hJ ▸ ⟨by simp [fe], by simp, Upto.zero⟩) ?_ ?_
        · intro i env n h _ hi hw ei hj
          rw [hJ] at hj
          obtain ⟨fe, -, hp⟩ := hj
          simp only [FE_cons, FE_nil, and_true] at fe
          obtain ⟨cg, q3, q4⟩ := dSl_at hx hi
          obtain ⟨u, gs, rfl, a1, a2, a3, a4⟩ := dGroup_inv q4
          have hGD : G_Depth [x, .str l[i].name] = some (.int .i64 (depth l l[i].name)) := by
            simp only [G_Depth, hx]; rw [if_pos ⟨hs, hac⟩]
          simp +contextual -implicitDefEqProofs [ei, fe, hi, q3, dSl_one a1, dSl_one a2, callA_fix hD, dSl_fix hx, hGD]
          refine Ck_mk ?_ ?_ <;> intro hc
          · simp +contextual -implicitDefEqProofs
            rw [← hv, groupsErr, if_neg h16, if_neg (by simpa using hall), if_neg hnr, if_pos (any_at (p := fun g : Group => decide (12 < depth l g.name)) hi (by simp at hc ⊢; omega))]
          · simp +contextual -implicitDefEqProofs [ei, fe, hw]
            rw [hJ]
            exact ⟨by simp [fe], by simp, hp.succ fun _ => by simp at hc ⊢; omega⟩
        · intro env n h ei hj
          rw [hJ] at hj
          obtain ⟨fe, -, hp⟩ := hj
          simp only [FE_cons, FE_nil, and_true] at fe
          simp +contextual -implicitDefEqProofs [ei, fe]
          rw [← hv, groupsErr, if_neg h16, if_neg (by simpa using hall), if_neg hnr, if_neg (by rw [any_none (p := fun g : Group => decide (12 < depth l g.name)) fun j hj => hp j hj hj]; simp)]
end Go.Pv.T
namespace Go.Pv.T
open Go Go.Pv
set_option linter.unusedSimpArgs false
set_option linter.unusedVariables false

/-! ### rules: what the program's check asks -/
def RB (id : Nat) (r : Rule) (h : Hp) : Prop := ∃ fr, h id = .row [[.bool r.allow, .str r.group, .str r.repo, .str r.glob]] fr
def PostB (v0 : AV) (n0 : Nat) (h0 : Hp) (v : AV) (n : Nat) (h : Hp) : Prop := v = v0 ∧ n0 ≤ n ∧ ∀ j, j < n0 → h j = h0 j
theorem w_access_Right_d1 {C : Ctx} {c : List AV} {g : Group} {r : Rule} {id n : Nat} {h : Hp} (hc : dGroup c = some g) (hid : id < n) (hr : RB id r h) : FnI C c_access_Right_d1 r_access_Right_d1 [.agg c, .ptr id 0 0] n h (PostB (.bool (g.name == r.group)) n h) := by
  unfold FnI c_access_Right_d1 r_access_Right_d1
  obtain ⟨fr, hr⟩ := hr
  obtain ⟨u, gs, rfl, a1, a2, a3, a4⟩ := dGroup_inv hc
  have hn : ¬ id = n := by omega
  generalize hP : PostB (.bool (g.name == r.group)) n h = P
  simp +contextual -implicitDefEqProofs [boxA, dSl_one a1, dSl_one a2, hr, hn]
  rw [← hP]
  exact ⟨by simp, by omega, fun j hj => by simp [show ¬ j = n by omega]⟩
def KnowR (C : Ctx) : Prop := C.TP i_access_Right_d1 = none ∧ ∀ c g r id n h, dGroup c = some g → id < n → RB id r h → ∃ v ws n', C.TI i_access_Right_d1 [.agg c, .ptr id 0 0] n h = some (v, ws, n') ∧ PostB (.bool (g.name == r.group)) n h v n' (updW h ws)
theorem w_slices_IndexFunc {C : Ctx} (hK : KnowR C) {x : AV} {l : List Group} (hx : dGroups x = some l) (hl : l.length ≤ LI) {r : Rule} {id n : Nat} {h : Hp} (hid : id < n) (hr : RB id r h) :
    FnI C c_slices_IndexFunc_LGroup_Group r_slices_IndexFunc_LGroup_Group [x, .fn i_access_Right_d1 [.ptr id 0 0]] n h (PostB (.int .i64 (ixOf (fun g => g.name == r.group) l)) n h) := by
  unfold FnI c_slices_IndexFunc_LGroup_Group r_slices_IndexFunc_LGroup_Group
  generalize hP : PostB (.int .i64 (ixOf (fun g => g.name == r.group) l)) n h = P
  simp +contextual -implicitDefEqProofs [dSl_len hx]
  obtain ⟨J, hJ⟩ : ∃ J : Nat → Env → Nat → Hp → Prop, J = fun j env n' h' => FE env [(0, x), (1, .fn i_access_Right_d1 [.ptr id 0 0]), (7, .int .i64 l.length)] ∧ (n ≤ n' ∧ ∀ i, i < n → h' i = h i) ∧ Upto j fun j => ∀ hj : j < l.length, (l[j].name == r.group) = false := ⟨_, rfl⟩
  refine Wk_scan l.length 8 0 J hl (Nat.zero_le _) (by simp) (hJ ▸ ⟨by simp, ⟨Nat.le_refl _, fun _ _ => rfl⟩, Upto.zero⟩) ?_ ?_
  · intro i env n' h' _ hi hw ei hj
    rw [hJ] at hj
    obtain ⟨fe, ⟨hn, hh⟩, hp⟩ := hj
    simp only [FE_cons, FE_nil, and_true] at fe
    obtain ⟨c, q1, q2⟩ := dSl_at hx hi
    have hrb : RB id r h' := by obtain ⟨fr, q⟩ := hr; exact ⟨fr, by rw [hh id hid]; exact q⟩
    simp +contextual -implicitDefEqProofs [ei, fe, hi, q1, dGroup_len q2, take_all (dGroup_len q2), callA_imp hK.1]
    refine Sk_imp _ (hK.2 c l[i] r id n' h' q2 (by omega) hrb) ?_
    rintro v ws n2 ⟨rfl, p1, p2⟩
    generalize updW h' ws = H at *
    simp +contextual -implicitDefEqProofs
    refine Ck_mk ?_ ?_ <;> intro hc
    · simp +contextual -implicitDefEqProofs [ei]
      rw [← hP, ixOf_at (p := fun g : Group => g.name == r.group) hi (fun j hj => hp j hj _) hc]
      exact ⟨rfl, by omega, fun j hj => by rw [p2 j (by omega), hh j hj]⟩
    · simp +contextual -implicitDefEqProofs [ei, fe, hw]
      rw [hJ]
      exact ⟨by simp [fe], ⟨by omega, fun j hj => by rw [p2 j (by omega), hh j hj]⟩, hp.succ fun _ => hc⟩
  · intro env n' h' ei hj
    rw [hJ] at hj
    obtain ⟨fe, ⟨hn, hh⟩, hp⟩ := hj
    simp only [FE_cons, FE_nil, and_true] at fe
    simp +contextual -implicitDefEqProofs [ei, fe]
    rw [← hP, ixOf_none (p := fun g : Group => g.name == r.group) fun j hj => hp j hj hj]
    exact ⟨rfl, hn, hh⟩
def KnowI (C : Ctx) : Prop := C.TP i_slices_IndexFunc_LGroup_Group = none ∧ ∀ x l r id n h, dGroups x = some l → l.length ≤ LI → id < n → RB id r h → ∃ v ws n', C.TI i_slices_IndexFunc_LGroup_Group [x, .fn i_access_Right_d1 [.ptr id 0 0]] n h = some (v, ws, n') ∧ PostB (.int .i64 (ixOf (fun g => g.name == r.group) l)) n h v n' (updW h ws)
theorem w_slices_ContainsFunc {C : Ctx} (hK : KnowI C) {x : AV} {l : List Group} (hx : dGroups x = some l) (hl : l.length ≤ LI) {r : Rule} {id n : Nat} {h : Hp} (hid : id < n) (hr : RB id r h) :
    FnI C c_slices_ContainsFunc_LGroup_Group r_slices_ContainsFunc_LGroup_Group [x, .fn i_access_Right_d1 [.ptr id 0 0]] n h (PostB (.bool (l.any fun g => g.name == r.group)) n h) := by
  unfold FnI c_slices_ContainsFunc_LGroup_Group r_slices_ContainsFunc_LGroup_Group
  rw [← ixOf_any]
  generalize hP : PostB (.bool (decide (0 ≤ ixOf (fun g => g.name == r.group) l))) n h = P
  simp +contextual -implicitDefEqProofs [callA_imp hK.1]
  refine Sk_imp _ (hK.2 x l r id n h hx hl hid hr) ?_
  rintro v ws n2 ⟨rfl, p1, p2⟩
  generalize updW h ws = H at *
  simp +contextual -implicitDefEqProofs
  rw [← hP]
  exact ⟨rfl, p1, p2⟩
def KnowF (C : Ctx) : Prop := C.TP i_slices_ContainsFunc_LGroup_Group = none ∧ ∀ x l r id n h, dGroups x = some l → l.length ≤ LI → id < n → RB id r h → ∃ v ws n', C.TI i_slices_ContainsFunc_LGroup_Group [x, .fn i_access_Right_d1 [.ptr id 0 0]] n h = some (v, ws, n') ∧ PostB (.bool (l.any fun g => g.name == r.group)) n h v n' (updW h ws)

def repoB (s : List UInt8) : Bool := !(s == []) && (s.contains 47 || !vpB s)
def ruleErr (l : List Group) (r : Rule) : Int := if (!(l.any fun g => g.name == r.group)) = true then 8 else if repoB r.repo = true then 3 else if globErr r.glob ≠ 0 then 3 else 0
def ruleAt (l : List Group) (rs : List Rule) (i : Nat) : Int := match rs[i]? with
  | some r => ruleErr l r
  | none => 0
theorem ruleAt_get {l : List Group} {rs : List Rule} {i : Nat} (h : i < rs.length) : ruleAt l rs i = ruleErr l rs[i] := by simp [ruleAt, List.getElem?_eq_getElem h]
noncomputable def rightS (p : Policy) : Int := if groupsErr p.groups ≠ 0 then groupsErr p.groups else if p.rules.length > 24 then 4 else firstNZ (ruleAt p.groups p.rules) p.rules.length
noncomputable def G_right : List AV → Option AV
  | [v] => match dPolicy v with
    | some p => some (.int .i64 (rightS p))
    | none => none
  | _ => none
theorem repoB_eq (s : List UInt8) : (!s.isEmpty && (decide (47 ∈ s) || !vpB s)) = repoB s := by
  unfold repoB
  rw [List.contains_eq_mem]
  cases s <;> rfl
set_option maxHeartbeats 4000000 in
theorem w_access_Right {C : Ctx} (hG : C.TP i_group_Right = some G_groups) (hK : KnowF C) (hS : C.TP i_strings_Contains = some G_Contains1) (hV : C.TP i_glob_ValidPath = some G_vp) (hR : C.TP i_glob_Right = some G_glob_Right) {w : AV} {p : Policy} (hp : dPolicy w = some p) :
    FnW C c_access_Right r_access_Right [w] (.int .i64 (rightS p)) := by
  unfold FnW c_access_Right r_access_Right
  obtain ⟨x, y, rfl, hx, hy, hgl, hrl⟩ := dPolicy_inv hp
  generalize hv : AV.int .i64 (rightS p) = v
  have hGG : G_groups [x] = some (.int .i64 (groupsErr p.groups)) := by simp only [G_groups, hx]; rw [if_pos hgl]
  simp +contextual -implicitDefEqProofs [boxA, dSl_one hx, dSl_one hy, callA_fix hG, dSl_fix hx, hGG]
  refine Ck_mk ?_ ?_ <;> intro hq
  · simp +contextual -implicitDefEqProofs
    rw [← hv, rightS, if_pos (by simpa using hq)]
  · have hq' : ¬ groupsErr p.groups ≠ 0 := by simpa using hq
    simp +contextual -implicitDefEqProofs [dSl_len hy]
    refine Ck_mk ?_ ?_ <;> intro hq2
    · simp +contextual -implicitDefEqProofs
      rw [← hv, rightS, if_neg hq', if_pos (by simp at hq2; omega)]
    · have h24 : ¬ p.rules.length > 24 := by simp at hq2; omega
      have hfin : rightS p = firstNZ (ruleAt p.groups p.rules) p.rules.length := by rw [rightS, if_neg hq', if_neg h24]
      rw [hfin] at hv
      simp +contextual -implicitDefEqProofs [dSl_len hy]
      obtain ⟨J, hJ⟩ : ∃ J : Nat → Env → Nat → Hp → Prop, J = Scan [(1, .ptr 0 0 0), (18, y), (19, .int .i64 p.rules.length)] [(0, .row [[x, y]] false)] fun j => ruleAt p.groups p.rules j = 0 := ⟨_, rfl⟩
      refine Wk_scan p.rules.length 20 0 J hrl (Nat.zero_le _) (by simp) (hJ ▸ ⟨by simp, by simp, Upto.zero⟩) ?_ ?_
      · intro i env n h _ hi hw ei hj
        rw [hJ] at hj
        obtain ⟨fe, fh, hp'⟩ := hj
        simp only [FE_cons, FE_nil, FH_cons, FH_nil, and_true] at fe fh
        obtain ⟨fh0, fhn⟩ := fh
        obtain ⟨c, q1, q2⟩ := dSl_at hy hi
        obtain rfl := dRule_inv q2
        have hone : ruleErr p.groups p.rules[i] ≠ 0 → AV.int .i64 (ruleErr p.groups p.rules[i]) = v := fun hne => by
          rw [← ruleAt_get hi] at hne ⊢
          rw [← hv, firstNZ_at hp' hne hi]
        have hrb := repoB_eq p.rules[i].repo
        have hn0 : ¬ 0 = n := by omega
        have hnz : ¬ n = 0 := by omega
        simp +contextual -implicitDefEqProofs [ei, fe, fh0, hi, q1, hn0, hnz, callA_imp hK.1]
        refine Sk_imp _ (hK.2 x p.groups p.rules[i] n (n + 1) _ hx hgl (by omega) ⟨false, by simp⟩) ?_
        rintro v' ws n2 ⟨rfl, p1, p2⟩
        have hHn := p2 n (by omega)
        have hH0 := p2 0 (by omega)
        simp [hn0, fh0] at hHn hH0
        generalize updW _ ws = H at *
        unfold ruleErr at hone
        simp +contextual -implicitDefEqProofs [ei, fe]
        refine Ck_mk ?_ ?_ <;> intro hc
        · simp +contextual -implicitDefEqProofs
          rw [if_pos hc] at hone
          exact hone (by decide)
        · rw [if_neg (by rw [hc]; simp)] at hone
          simp +contextual -implicitDefEqProofs [hHn, callA_fix hS, callA_fix hV, G_Contains1, G_vp]
          refine Ck_mk ?_ ?_ <;> intro hc2
          · rw [hrb] at hc2
            rw [if_pos hc2] at hone
            simp +contextual -implicitDefEqProofs
            exact hone (by decide)
          · rw [hrb] at hc2
            rw [if_neg (by rw [hc2]; simp)] at hone
            simp +contextual -implicitDefEqProofs [hHn, callA_fix hR, G_glob_Right]
            refine Ck_mk ?_ ?_ <;> intro hc3
            · rw [if_pos (by simpa using hc3)] at hone
              simp +contextual -implicitDefEqProofs
              exact hone (by decide)
            · simp +contextual -implicitDefEqProofs [ei, fe, hw]
              rw [hJ]
              refine ⟨by simp [fe], by simp [hH0]; omega, hp'.succ ?_⟩
              rw [ruleAt_get hi, ruleErr, if_neg (by rw [hc]; simp), if_neg (by rw [hc2]; simp), if_neg (by simpa using hc3)]
      · intro env n h ei hj
        rw [hJ] at hj
        obtain ⟨fe, fh, hp'⟩ := hj
        simp only [FE_cons, FE_nil, FH_cons, FH_nil, and_true] at fe fh
        simp +contextual -implicitDefEqProofs [ei, fe]
        rw [← hv, firstNZ_zero.2 hp']
end Go.Pv.T
