/- A part of the proof that AccessRights returns true wherever its input is of bulk at most 1048576: what the functions that it reaches answer. No theorem of the claim stands here. -/
import Derived.Test.YtedapkgjicmhjaaGreatDoorSf
namespace Go.Pv.T
open Go Go.Pv
set_option linter.unusedSimpArgs false
set_option linter.unusedVariables false

/-! ### patterns: what an element stands for -/
def inR (rs : List (UInt8 × UInt8)) (c : UInt8) : Bool := rs.any fun r => decide (r.1.toNat ≤ c.toNat) && decide (c.toNat ≤ r.2.toNat)
def standsB : El → UInt8 → Bool
  | .ch a, c => c == a
  | .q, c => c != 47
  | .set neg rs, c => c != 47 && (inR rs c != neg)
  | _, _ => false
theorem u8eq (a b : UInt8) : (a == b) = decide (a.toNat = b.toNat) := by
  rw [Bool.eq_iff_iff]; simp [← UInt8.toNat_inj]
theorem mkSl_len {sz : Nat} {es : List (List AV)} {h : Hp} : lenC .sl h (mkSl sz es) = some (.int .i64 es.length) := by
  unfold mkSl; split
  · rename_i q; subst q; rfl
  · rfl
theorem mkSl_at {sz : Nat} {es : List (List AV)} {i : Nat} (hi : i < es.length) : iaddrC (.sl sz) (mkSl sz es) (.int .i64 i) = some (.cptr es[i]) := by
  unfold mkSl; split
  · rename_i q; subst q; simp at hi
  · simp [hi]
theorem w_stands {C : Ctx} {x : El} (hx : x ≠ .star ∧ x ≠ .dstar) (hl : ∀ neg rs, x = .set neg rs → rs.length ≤ LI) (c : UInt8) : FnW C c_glob_element_stands r_glob_element_stands [.agg (encP x), .int .u8 c.toNat] (.bool (standsB x c)) := by
  unfold FnW c_glob_element_stands r_glob_element_stands
  generalize hv : AV.bool (standsB x c) = v
  have hc := c.toNat_lt
  cases x with
  | ch a =>
    simp +contextual -implicitDefEqProofs [encP, boxA]
    rw [← hv]
    simp [standsB, u8eq, ← Int.ofNat_inj]
  | q =>
    simp +contextual -implicitDefEqProofs [encP, boxA]
    rw [← hv]
    simp [standsB, u8eq, bne]; omega
  | star => exact absurd rfl hx.1
  | dstar => exact absurd rfl hx.2
  | set neg rs =>
    have hl := hl neg rs rfl
    simp +contextual -implicitDefEqProofs [encP, boxA, mkSl_one, mkSl_cells, mkSl_len]
    generalize hrow : [AV.int IntKind.i64 4, AV.int IntKind.u8 0, AV.bool neg, mkSl 2 (List.map encR rs)] = row
    obtain ⟨J, hJ⟩ : ∃ J : Nat → Env → Nat → Hp → Prop, J = fun i env n h => FE env [(1, .int .u8 c.toNat), (2, .ptr 0 0 0), (21, mkSl 2 (List.map encR rs)), (22, .int .i64 rs.length), (5, .bool (inR (rs.take i) c))] ∧ FH h n [(0, .row [row] false)] := ⟨_, rfl⟩
    refine Wk_scan rs.length 23 0 J hl (Nat.zero_le _) (by simp) (hJ ▸ ⟨by simp [inR], by simp⟩) ?_ ?_
    · intro i env n h _ hi hw ei hj
      rw [hJ] at hj
      obtain ⟨fe, fh⟩ := hj
      simp only [FE_cons, FE_nil, FH_cons, FH_nil, and_true] at fe fh
      have hat := mkSl_at (sz := 2) (es := rs.map encR) (i := i) (by simpa using hi)
      simp only [List.getElem_map, encR] at hat
      have hn : ¬ 0 = n := by omega
      simp +contextual -implicitDefEqProofs [ei, fe, fh, hi, hat, hn, hw]
      rw [hJ]
      refine ⟨?_, by simp [fh, hn]⟩
      have : inR (rs.take (i + 1)) c = (inR (rs.take i) c || (decide (rs[i].1.toNat ≤ c.toNat) && decide (c.toNat ≤ rs[i].2.toNat))) := by
        unfold inR
        rw [List.take_succ_eq_append_getElem hi, List.any_append, List.any_cons, List.any_nil, Bool.or_false]
      simp only [FE_cons, FE_nil, and_true]
      rw [this]
      simp [fe]
    · intro env n h ei hj
      rw [hJ] at hj
      obtain ⟨fe, fh⟩ := hj
      simp only [FE_cons, FE_nil, FH_cons, FH_nil, and_true] at fe fh
      subst hrow
      simp +contextual -implicitDefEqProofs [ei, fe, fh]
      rw [← hv]
      have h47 : (c != 47) = !decide ((c.toNat : Int) = 47) := by
        rw [bne, u8eq]
        have : (47 : UInt8).toNat = 47 := rfl
        rw [this]
        congr 1
        rw [Bool.eq_iff_iff]; simp; omega
      simp only [standsB]
      rw [h47, bne]

/-! ### patterns: which paths they match -/
def isStar : El → Bool
  | .star | .dstar => true
  | _ => false
/-- A row of truths. -/
def rowB (f : Nat → Bool) (L : Nat) : List (List AV) := (List.range L).map fun i => [.bool (f i)]
theorem rowB_len (f : Nat → Bool) (L : Nat) : (rowB f L).length = L := by simp [rowB]
theorem rowB_at {f : Nat → Bool} {L i : Nat} (h : i < L) : (rowB f L)[i]? = some [.bool (f i)] := by simp [rowB, h]
theorem rowB_set {f : Nat → Bool} {L i : Nat} (b : Bool) : (rowB f L).set i [.bool b] = rowB (fun j => if j = i then b else f j) L := by
  apply List.ext_getElem?
  intro j
  rw [List.getElem?_set]
  by_cases hj : j < L
  · by_cases e : i = j
    · subst e; simp [rowB, hj]
    · have : ¬ j = i := fun q => e q.symm
      simp [rowB, hj, e, this]
  · simp [rowB, hj]; omega
theorem rowB_congr {f g : Nat → Bool} {L : Nat} (h : ∀ i, i < L → f i = g i) : rowB f L = rowB g L := by
  unfold rowB
  apply List.map_congr_left
  intro i hi
  rw [h i (List.mem_range.1 hi)]
theorem rowB_rep (L : Nat) : List.replicate L [AV.bool false] = rowB (fun _ => false) L := by
  apply List.ext_getElem?
  intro j
  by_cases hj : j < L <;> simp [rowB, hj]
/-- The places of p that are matched behind one element more. -/
def nx (x : El) (p : List UInt8) (at' : Nat → Bool) : Nat → Bool
  | 0 => isStar x && at' 0
  | i + 1 => if isStar x = true then at' (i + 1) || (nx x p at' i && (x == .dstar || p.getD i 0 != 47)) else at' i && decide (i < p.length) && standsB x (p.getD i 0)
def nxs (p : List UInt8) (l : List El) : Nat → Bool := l.foldl (fun at' x => nx x p at') fun i => decide (i = 0)
def matchB (l : List El) (p : List UInt8) : Bool := nxs p l p.length
def globB (g p : List UInt8) : Bool := match parseS g with
  | some l => decide (globErr g = 0) && matchB l p
  | none => false
/-- A table entry told by a relation. -/
noncomputable def relG (R : List AV → AV → Prop) (a : List AV) : Option AV := open Classical in if h : ∃ v, R a v then some h.choose else none
theorem relG_of {R : List AV → AV → Prop} {a : List AV} {v : AV} (h : relG R a = some v) : R a v := by
  unfold relG at h
  split at h
  · rename_i q; cases h; exact q.choose_spec
  · cases h
theorem relG_some {R : List AV → AV → Prop} (hf : ∀ a v w, R a v → R a w → v = w) {a : List AV} {v : AV} (h : R a v) : relG R a = some v := by
  unfold relG
  have q : ∃ v, R a v := ⟨v, h⟩
  rw [dif_pos q]
  exact congrArg some (hf _ _ _ q.choose_spec h)
theorem u8inj {a b : UInt8} (h : (a.toNat : Int) = b.toNat) : a = b := UInt8.toNat_inj.1 (by omega)
theorem encR_inj : ∀ {a b : List (UInt8 × UInt8)}, a.map encR = b.map encR → a = b := by
  intro a
  induction a with
  | nil => intro b h; cases b with
    | nil => rfl
    | cons y s => simp at h
  | cons x r ih => intro b h; cases b with
    | nil => simp at h
    | cons y s =>
      simp only [List.map_cons, List.cons.injEq, encR, AV.int.injEq, true_and, and_true] at h
      obtain ⟨⟨h1, h2⟩, h3⟩ := h
      rw [ih h3, Prod.ext (u8inj h1) (u8inj h2)]
theorem mkSl_inj {sz : Nat} {a b : List (List AV)} (h : mkSl sz a = mkSl sz b) : a = b := by
  unfold mkSl at h
  split at h <;> split at h
  · rename_i h1 h2; rw [h1, h2]
  · cases h
  · cases h
  · cases h; rfl
theorem encP_inj {x y : El} (h : encP x = encP y) : x = y := by
  cases x <;> cases y <;> simp [encP] at h
  · rw [u8inj h]
  · rfl
  · rfl
  · rfl
  · rw [h.1, encR_inj (mkSl_inj h.2)]
def R_stands (a : List AV) (v : AV) : Prop := ∃ x c, a = [.agg (encP x), .int .u8 (UInt8.toNat c)] ∧ (x ≠ .star ∧ x ≠ .dstar) ∧ (∀ neg rs, x = .set neg rs → rs.length ≤ LI) ∧ v = .bool (standsB x c)
theorem R_stands_fun (a : List AV) (v w : AV) (h : R_stands a v) (k : R_stands a w) : v = w := by
  obtain ⟨x, c, rfl, -, -, rfl⟩ := h
  obtain ⟨x', c', e, -, -, rfl⟩ := k
  simp only [List.cons.injEq, AV.agg.injEq, AV.int.injEq, true_and, and_true] at e
  rw [encP_inj e.1, u8inj e.2]
noncomputable def G_stands : List AV → Option AV := relG R_stands
theorem stands_ok {C : Ctx} (args : List AV) (v : AV) (h : G_stands args = some v) : FnW C c_glob_element_stands r_glob_element_stands args v := by
  obtain ⟨x, c, rfl, h1, h2, rfl⟩ := relG_of h
  exact w_stands h1 h2 c
theorem G_stands_of {x : El} (h1 : x ≠ .star ∧ x ≠ .dstar) (h2 : ∀ neg rs, x = .set neg rs → rs.length ≤ LI) (c : UInt8) : G_stands [.agg (encP x), .int .u8 c.toNat] = some (.bool (standsB x c)) :=
  relG_some R_stands_fun ⟨x, c, rfl, h1, h2, rfl⟩
end Go.Pv.T
namespace Go.Pv.T
open Go Go.Pv
set_option linter.unusedSimpArgs false
set_option linter.unusedVariables false

theorem rangesP_len (s : List UInt8) : (rangesP s).1.length ≤ s.length := by
  fun_induction rangesP s with
  | case1 a b r h => simp
  | case2 a b r h ih => simp; omega
  | case3 a r h ih => simp; omega
  | case4 => simp
theorem negOf_len (s : List UInt8) : (negOf s).2.length ≤ s.length := by
  unfold negOf; split <;> simp
def elFine (L : Nat) (x : El) : Prop := ∀ neg rs, x = .set neg rs → rs.length ≤ L
theorem elStep_fine {t : List UInt8} {x : El} {n : Nat} (h : elStep t = some (x, n)) : elFine t.length x := by
  intro neg rs hx
  subst hx
  unfold elStep at h
  split at h
  · cases h
  split at h
  · simp at h
  split at h
  · simp at h
  split at h
  · simp at h
  split at h
  · unfold setAtS at h
    split at h
    · cases h
    · split at h
      · simp only [Option.some.injEq, Prod.mk.injEq, El.set.injEq] at h
        obtain ⟨⟨-, rfl⟩, -⟩ := h
        have h1 := rangesP_len (negOf ((t.take (Lib.indexByte t 93).toNat).drop 1)).2
        have h2 := negOf_len ((t.take (Lib.indexByte t 93).toNat).drop 1)
        simp only [List.length_drop, List.length_take] at h2
        simp only [setS]
        omega
      · cases h
  · simp at h
theorem parseF_fine : ∀ (f : Nat) (t : List UInt8) (l : List El), parseF f t = some l → l.length ≤ t.length ∧ ∀ x ∈ l, elFine t.length x := by
  intro f
  induction f with
  | zero => intro t l h; cases h
  | succ f ih =>
    intro t l h
    by_cases ht : t = []
    · subst ht; rw [parseF_nil] at h; cases h; simp
    · cases hs : elStep t with
      | none => rw [parseF_none ht hs] at h; cases h
      | some p =>
        obtain ⟨x, n⟩ := p
        rw [parseF_some ht hs, Option.map_eq_some_iff] at h
        obtain ⟨l', h1, rfl⟩ := h
        obtain ⟨k1, k2⟩ := elStep_le ht hs
        obtain ⟨i1, i2⟩ := ih _ _ h1
        simp only [List.length_drop] at i1 i2
        refine ⟨by simp; omega, fun y hy => ?_⟩
        rw [List.mem_cons] at hy
        rcases hy with rfl | hy
        · exact elStep_fine hs
        · intro neg rs e; have := i2 y hy neg rs e; omega
theorem parseS_fine {t : List UInt8} {l : List El} (h : parseS t = some l) : l.length ≤ t.length ∧ ∀ x ∈ l, elFine t.length x := parseF_fine _ _ _ h
def kindP : El → Int
  | .ch _ => 0
  | .q => 3
  | .star => 2
  | .dstar => 1
  | .set .. => 4
theorem kindP_1 (x : El) : decide (kindP x = 1) = (x == .dstar) := by cases x <;> rfl
theorem kindP_s (x : El) : (decide (kindP x = 1) || decide (kindP x = 2)) = isStar x := by cases x <;> rfl
theorem encP_kind (x : El) : ∃ c neg s, encP x = [.int .i64 (kindP x), .int .u8 c, .bool neg, s] ∧ s.one = true ∧ Fix1 s := by
  cases x <;> exact ⟨_, _, _, rfl, by simp [mkSl_one], by simp [mkSl_fix1]⟩
theorem setR_B {f : Nat → Bool} {L i id : Nat} {b : Bool} (hi : i < L) : setR 1 id i 0 (.bool b) (.row (rowB f L) false) = some (id, .row (rowB (fun j => if j = i then b else f j) L) false) := by
  rw [setR_i (rowB_at hi), if_pos (by simp), ← rowB_set]; simp
theorem rowC_B {f : Nat → Bool} {L i : Nat} (hi : i < L) {fr : Bool} : rowC .s i 0 (.row (rowB f L) fr) = some (.bool (f i)) := by
  simp [rowC, rowB_at hi, rd]
/-- The part of the next row that lies already. -/
def part (x : El) (p : List UInt8) (f : Nat → Bool) (k j : Nat) : Bool := if isStar x = true then decide (j < k) && nx x p f j else decide (j ≤ k) && nx x p f j
set_option maxHeartbeats 4000000 in
theorem w_glob_Match {C : Ctx} (hR : C.TP i_glob_Right = some G_glob_Right) (hP : C.TP i_glob_parse = some G_glob_parse) (hS : C.TP i_glob_element_stands = some G_stands) (g p : List UInt8) (hp : p.length ≤ 1000000) :
    FnW C c_glob_Match r_glob_Match [.str g, .str p] (.bool (globB g p)) := by
  unfold FnW c_glob_Match r_glob_Match
  generalize hv : AV.bool (globB g p) = v
  simp +contextual -implicitDefEqProofs [callA_fix hR, G_glob_Right]
  refine Ck_mk ?_ ?_ <;> intro hq
  · simp +contextual -implicitDefEqProofs
    have : ¬ globErr g = 0 := by simpa using hq
    rw [← hv, globB]
    cases parseS g <;> simp [this]
  · have hg : globErr g = 0 := by simpa using hq
    have hgl : g.length ≤ 60 ∧ ∃ l, parseS g = some l := by
      unfold globErr at hg
      split at hg
      · cases hg
      · split at hg
        · rename_i h1 h2; exact ⟨by omega, Option.isSome_iff_exists.1 h2⟩
        · cases hg
    obtain ⟨hgl, l, hl⟩ := hgl
    obtain ⟨f1, f2⟩ := parseS_fine hl
    have hll : l.length ≤ LI := by simp only [LI]; omega
    have hpv : parseV g = .tup [mkSl 4 (l.map encP), .bool true] := by simp [parseV, hl]
    have hgl' : g.length ≤ 1000000 := by omega
    have hw1 : IntKind.i64.wrap ((p.length : Int) + 1) = (p.length : Int) + 1 := wrap_in (by omega) (by omega)
    rw [globB, hl] at hv
    simp only [hg, decide_true, Bool.true_and] at hv
    simp +contextual -implicitDefEqProofs [callA_fix hP, G_glob_parse, hgl', hpv, mkSl_len, mkSl_one, hw1]
    have hw2 : (0 : Int) ≤ (p.length : Int) + 1 := by omega
    have hw3 : (p.length : Int) + 1 ≤ 2147483648 := by omega
    simp +contextual -implicitDefEqProofs [hw2, hw3, rowB_rep, setR_B, mkSl_len]
    obtain ⟨L, hL⟩ : ∃ L, L = p.length + 1 := ⟨_, rfl⟩
    obtain ⟨J, hJ⟩ : ∃ J : Nat → Env → Nat → Hp → Prop, J = fun i env n h => FE env [(1, .str p), (27, mkSl 4 (l.map encP)), (28, .int .i64 l.length)] ∧ ∃ id, env 7 = .arr id 0 (p.length + 1) (p.length + 1) 1 false ∧ id < n ∧ h id = .row (rowB (nxs p (l.take i)) (p.length + 1)) false := ⟨_, rfl⟩
    refine Wk_scan l.length 29 0 J hll (Nat.zero_le _) (by simp) (hJ ▸ ⟨by simp, 0, by simp, by simp, by simp [nxs]⟩) ?_ ?_
    · intro i env n h _ hi hw ei hj
      rw [hJ] at hj
      obtain ⟨fe, id, e7, hid, hrow⟩ := hj
      simp only [FE_cons, FE_nil, and_true] at fe
      have hat := mkSl_at (sz := 4) (es := l.map encP) (i := i) (by simpa using hi)
      simp only [List.getElem_map] at hat
      obtain ⟨x, hx⟩ : ∃ x, x = l[i] := ⟨_, rfl⟩
      obtain ⟨f, hf⟩ : ∃ f, f = nxs p (l.take i) := ⟨_, rfl⟩
      have hnx : nxs p (l.take (i + 1)) = nx x p f := by rw [List.take_succ_eq_append_getElem hi, nxs, List.foldl_append, hf, hx]; rfl
      have hfine : elFine LI x := fun neg rs e => by have := f2 x (hx ▸ List.getElem_mem hi) neg rs e; simp only [LI]; omega
      rw [← hx] at hat
      rw [← hf] at hrow
      obtain ⟨c, neg, s, he, hs1, hs2⟩ := encP_kind x
      rw [he] at hat
      have hn1 : ¬ id = n := by omega
      have hn2 : ¬ id = n + 1 := by omega
      have hn3 : ¬ n = id := by omega
      simp +contextual -implicitDefEqProofs [ei, fe, e7, hi, hat, hs1, hw1, hw2, hw3, rowB_rep]
      obtain ⟨J2, hJ2⟩ : ∃ J2 : Nat → Env → Nat → Hp → Prop, J2 = fun k env n' h => FE env [(1, .str p), (27, mkSl 4 (l.map encP)), (28, .int .i64 l.length), (29, .int .i64 i), (9, .ptr n 0 0), (10, .arr (n + 1) 0 (p.length + 1) (p.length + 1) 1 false), (37, .arr id 0 (p.length + 1) (p.length + 1) 1 false), (38, .int .i64 (p.length + 1))] ∧
          FH h n' [(id, .row (rowB f (p.length + 1)) false), (n, .row [[.int .i64 (kindP x), .int .u8 c, .bool neg, s]] false), (n + 1, .row (rowB (part x p f k) (p.length + 1)) false)] := ⟨_, rfl⟩
      have hp0 : rowB (fun _ => false) (p.length + 1) = rowB (part x p f 0) (p.length + 1) := rowB_congr fun j _ => by
        unfold part
        split
        · simp
        · rename_i q
          cases j with
          | zero => simp [nx, q]
          | succ j => simp
      refine Wk_scan (p.length + 1) 39 0 J2 (by omega) (Nat.zero_le _) (by simp) (hJ2 ▸ ⟨by simp [fe, ei], by simp [hn1, hn2, hrow, hp0]; omega⟩) ?_ ?_
      · intro k env' n' h' _ hk hwk ek hjk
        rw [hJ2] at hjk
        obtain ⟨fe', fh'⟩ := hjk
        simp only [FE_cons, FE_nil, FH_cons, FH_nil, and_true] at fe' fh'
        have hks := kindP_s x
        have hk1 := kindP_1 x
        have hk2 : (k : Int) < (p.length : Int) + 1 := by omega
        have hk0 : (0 : Int) ≤ (k : Int) := by omega
        simp +contextual -implicitDefEqProofs [ek, fe', fh', hk2, hks, rowC_B, hk]
        refine Ck_mk ?_ ?_ <;> intro hst
        · have hpart : ∀ k j, part x p f k j = (decide (j < k) && nx x p f j) := fun k j => by simp [part, hst]
          have hrw : ∀ b, b = nx x p f k → rowB (fun j => if j = k then b else part x p f k j) (p.length + 1) = rowB (part x p f (k + 1)) (p.length + 1) := fun b hb => rowB_congr fun j _ => by
            simp only [hpart]
            by_cases q : j = k
            · subst q; simp [hb]
            · have : decide (j < k + 1) = decide (j < k) := by rw [decide_eq_decide]; omega
              rw [if_neg q, this]
          have hend : ∀ b, b = nx x p f k → ∀ env'' h'', FE env'' [(1, .str p), (27, mkSl 4 (l.map encP)), (28, .int .i64 l.length), (29, .int .i64 i), (9, .ptr n 0 0), (10, .arr (n + 1) 0 (p.length + 1) (p.length + 1) 1 false), (37, .arr id 0 (p.length + 1) (p.length + 1) 1 false), (38, .int .i64 (p.length + 1))] →
              h'' = upd h' (n + 1) (AO.row (rowB (fun j => if j = k then b else part x p f k j) (p.length + 1)) false) → J2 (k + 1) env'' n' h'' := fun b hb env'' h'' q1 q2 => by
            rw [hJ2, q2, hrw b hb]
            exact ⟨q1, by simp [hn2, fh', show ¬ n = n + 1 by omega]⟩
          cases k with
          | zero =>
            have hnx0 : nx x p f 0 = f 0 := by simp [nx, hst]
            cases hf0 : f 0 with
            | true =>
              simp +contextual -implicitDefEqProofs [ek, fe', fh', hk2, hks, rowC_B, setR_B, hf0]
              exact hend true (by rw [hnx0, hf0]) _ _ (by simp [fe']) (by simp [fh'])
            | false =>
              simp +contextual -implicitDefEqProofs [ek, fe', fh', hk2, hks, rowC_B, setR_B, hf0]
              exact hend false (by rw [hnx0, hf0]) _ _ (by simp [fe']) (by simp [fh'])
          | succ k =>
            have hkp : k < p.length := by omega
            have hnx1 : nx x p f (k + 1) = (f (k + 1) || (nx x p f k && (x == .dstar || p.getD k 0 != 47))) := by simp only [nx, hst, if_true]
            have hgd : p.getD k 0 = p[k] := by simp [List.getD_eq_getElem?_getD, hkp]
            rw [hgd] at hnx1
            have hwk' : IntKind.i64.wrap ((k : Int) + 1 + 1) = (k : Int) + 1 + 1 := wrap_in (by omega) (by omega)
            have hwk0 : IntKind.i64.wrap (k : Int) = k := wrap_nat (by omega)
            have hk3 : (0 : Int) < (k : Int) + 1 := by omega
            have hk5 : (k : Int) < (p.length : Int) := by omega
            have hk6 : (0 : Int) ≤ (k : Int) + 1 := by omega
            have hk7 : (k : Int) < (p.length : Int) + 1 := by omega
            have hk4 : k < p.length + 1 := by omega
            have hpk : part x p f (k + 1) k = nx x p f k := by simp [hpart]
            have h47 : (!decide ((p[k].toNat : Int) = 47)) = (p[k] != 47) := by
              rw [bne, u8eq]
              have : (47 : UInt8).toNat = 47 := rfl
              rw [this]
              congr 1
              rw [Bool.eq_iff_iff]; simp; omega
            cases hf0 : f (k + 1) with
            | true =>
              simp +contextual -implicitDefEqProofs [ek, fe', fh', hk2, hks, rowC_B, setR_B, hf0, hk, hwk', hkp, hk5, hk6, hk7]
              exact hend true (by rw [hnx1, hf0]; simp) _ _ (by simp [fe']) (by simp [fh'])
            | false =>
              cases hf1 : nx x p f k with
              | false =>
                simp +contextual -implicitDefEqProofs [ek, fe', fh', hk2, hks, rowC_B, setR_B, hf0, hk, hk3, hk4, hwk0, hpk, hf1, hwk', hkp, hk5, hk6, hk7]
                exact hend false (by rw [hnx1, hf0, hf1]; simp) _ _ (by simp [fe']) (by simp [fh'])
              | true =>
                cases hf2 : (x == .dstar) with
                | true =>
                  rw [hf2] at hk1
                  simp +contextual -implicitDefEqProofs [ek, fe', fh', hk2, hks, hk1, rowC_B, setR_B, hf0, hk, hk3, hk4, hwk0, hpk, hf1, hwk', hkp, hk5, hk6, hk7]
                  exact hend true (by rw [hnx1, hf0, hf1, hf2]; simp) _ _ (by simp [fe']) (by simp [fh'])
                | false =>
                  rw [hf2] at hk1
                  simp +contextual -implicitDefEqProofs [ek, fe', fh', hk2, hks, hk1, rowC_B, setR_B, hf0, hk, hk3, hk4, hwk0, hpk, hf1, hwk', hkp, hk5, hk6, hk7, h47]
                  exact hend (p[k] != 47) (by rw [hnx1, hf0, hf1, hf2]; simp) _ _ (by simp [fe']) (by simp [fh'])
        · have hpart : ∀ k j, part x p f k j = (decide (j ≤ k) && nx x p f j) := fun k j => by simp [part, hst]
          have hks0 : ∀ b, b = nx x p f (k + 1) → rowB (fun j => if j = k + 1 then b else part x p f k j) (p.length + 1) = rowB (part x p f (k + 1)) (p.length + 1) := fun b hb => rowB_congr fun j _ => by
            simp only [hpart]
            by_cases q : j = k + 1
            · subst q; simp [hb]
            · have : decide (j ≤ k + 1) = decide (j ≤ k) := by rw [decide_eq_decide]; omega
              rw [if_neg q, this]
          have hsame : nx x p f (k + 1) = false → rowB (part x p f k) (p.length + 1) = rowB (part x p f (k + 1)) (p.length + 1) := fun hb => rowB_congr fun j _ => by
            simp only [hpart]
            by_cases q : j = k + 1
            · subst q; simp [hb]
            · have : decide (j ≤ k + 1) = decide (j ≤ k) := by rw [decide_eq_decide]; omega
              rw [this]
          have hnx1 : nx x p f (k + 1) = (f k && decide (k < p.length) && standsB x (p.getD k 0)) := by simp only [nx, hst, Bool.false_eq_true, if_false]
          have hstay : nx x p f (k + 1) = false → ∀ env'', FE env'' [(1, .str p), (27, mkSl 4 (l.map encP)), (28, .int .i64 l.length), (29, .int .i64 i), (9, .ptr n 0 0), (10, .arr (n + 1) 0 (p.length + 1) (p.length + 1) 1 false), (37, .arr id 0 (p.length + 1) (p.length + 1) 1 false), (38, .int .i64 (p.length + 1))] → J2 (k + 1) env'' n' h' := fun hb env'' q1 => by
            rw [hJ2]
            show _ ∧ _
            rw [← hsame hb]
            exact ⟨q1, by simp [hn2, fh', show ¬ n = n + 1 by omega]⟩
          have hxs : x ≠ .star ∧ x ≠ .dstar := ⟨fun q => (by rw [q] at hst; cases hst), fun q => (by rw [q] at hst; cases hst)⟩
          by_cases hg : f k = true ∧ k < p.length
          · obtain ⟨hg1, hg2⟩ := hg
            have hgd : p.getD k 0 = p[k] := by simp [List.getD_eq_getElem?_getD, hg2]
            rw [hgd] at hnx1
            have hG := G_stands_of hxs hfine p[k]
            rw [he] at hG
            have hk5 : (k : Int) + 1 < (p.length : Int) + 1 := by omega
            have hk6 : (0 : Int) ≤ (k : Int) + 1 := by omega
            have hk7 : (k : Int) < (p.length : Int) := by omega
            have hk8 : k + 1 < p.length + 1 := by omega
            cases hsb : standsB x p[k] with
            | true =>
              rw [hsb] at hG
              simp +contextual -implicitDefEqProofs [ek, fe', fh', hk2, hks, rowC_B, setR_B, hg1, hg2, callA_fix hS, hs2, hG, hwk, hk5, hk6, hk7, hk8]
              rw [hJ2]
              refine ⟨by simp [fe'], ?_⟩
              rw [← hks0 true (by rw [hnx1, hg1, hsb]; simp [hg2])]
              simp [hn2, fh', show ¬ n = n + 1 by omega]
            | false =>
              rw [hsb] at hG
              simp +contextual -implicitDefEqProofs [ek, fe', fh', hk2, hks, rowC_B, setR_B, hg1, hg2, callA_fix hS, hs2, hG, hwk, hk5, hk6, hk7, hk8]
              exact hstay (by rw [hnx1, hsb]; simp) _ (by simp [fe'])
          · have hz : nx x p f (k + 1) = false := by
              rw [hnx1, ← Bool.not_eq_true]; intro q; simp at q; exact hg q.1
            cases hfk : f k with
            | false =>
              simp +contextual -implicitDefEqProofs [ek, fe', fh', hk2, hks, rowC_B, setR_B, hfk, hwk]
              exact hstay hz _ (by simp [fe'])
            | true =>
              have hkl : ¬ k < p.length := fun q => hg ⟨hfk, q⟩
              simp +contextual -implicitDefEqProofs [ek, fe', fh', hk2, hks, rowC_B, setR_B, hfk, hkl, hwk]
              exact hstay hz _ (by simp [fe'])
      · intro env' n' h' ek hjk
        rw [hJ2] at hjk
        obtain ⟨fe', fh'⟩ := hjk
        simp only [FE_cons, FE_nil, FH_cons, FH_nil, and_true] at fe' fh'
        simp +contextual -implicitDefEqProofs [ek, fe', fh', hw]
        rw [hJ]
        refine ⟨by simp [fe'], n + 1, by simp, by omega, ?_⟩
        rw [fh'.2.2.1, hnx]
        refine congrArg (AO.row · false) (rowB_congr fun j hj => ?_)
        have : j ≤ p.length + 1 := by omega
        unfold part
        split <;> simp [hj, this]
    · intro env n h ei hj
      rw [hJ] at hj
      obtain ⟨fe, id, e7, hid, hrow⟩ := hj
      simp only [FE_cons, FE_nil, and_true] at fe
      have hpl : (p.length : Int) < (p.length : Int) + 1 := by omega
      simp +contextual -implicitDefEqProofs [ei, fe, e7, hpl, hrow, rowC_B]
      rw [← hv, matchB]
end Go.Pv.T
namespace Go.Pv.T
open Go Go.Pv
set_option linter.unusedSimpArgs false
set_option linter.unusedVariables false

/-! ### who may read: the program -/
theorem memErr_smallU {l : List Group} {g : Group} (h : memErr l g = 0) : g.users.length ≤ 16 := by
  unfold memErr at h
  split at h
  · cases h
  · omega
theorem groups_smallU {l : List Group} (h : groupsErr l = 0) : SmallU l := by
  unfold groupsErr at h
  split at h
  · cases h
  · rename_i h1
    split at h
    · rename_i h2; exact absurd h h2
    · rename_i h2
      have h2 : oneAll l = 0 := by simpa using h2
      refine ⟨small_of h1 h2, fun g hg => ?_⟩
      obtain ⟨i, hi, rfl⟩ := List.mem_iff_getElem.1 hg
      have := firstNZ_zero.1 h2 i hi
      rw [oneAt_get hi, oneErr] at this
      split at this
      · cases this
      · split at this
        · cases this
        · exact memErr_smallU this
theorem right_groups {p : Policy} (h : rightS p = 0) : groupsErr p.groups = 0 := by
  unfold rightS at h
  split at h
  · rename_i q; exact absurd h q
  · rename_i q; simpa using q
open Classical in
noncomputable def G_Users : List AV → Option AV
  | [x, .str nm] => match dGroups x with
    | some l => if SmallU l then some (ansU (cellU x nm) (usersS l nm)) else none
    | none => none
  | _ => none
def inB (l : List Group) (nm : Nm) (u : Int) : Bool := (usersS l nm).contains u
open Classical in
noncomputable def G_In : List AV → Option AV
  | [x, .str nm, .int .i64 u] => match dGroups x with
    | some l => if SmallU l then some (.bool (inB l nm u)) else none
    | none => none
  | _ => none
theorem ansU_fix {u : AV} {zs : List Int} : Fix1 (ansU u zs) := by
  unfold ansU
  split
  · split <;> simp
  · simp
theorem flatMap_le {l : List Group} (hs : SmallU l) : ∀ vs : List Nm, (vs.flatMap (usersOf l)).length ≤ 16 * vs.length := by
  intro vs
  induction vs with
  | nil => simp
  | cons y r ih => have := usersOf_le hs y; simp only [List.flatMap_cons, List.length_append, List.length_cons]; omega
theorem inside_len {l : List Group} (hs : SmallU l) (nm : Nm) : (insideS l nm).length ≤ 256 := by
  have hFi : Fine l (insideS l nm) := ((Fine.nil l).putAll (a := nm) fun s hs => hs).itS _
  exact hFi.len hs.1
theorem usersS_len {l : List Group} (hs : SmallU l) (nm : Nm) : (usersS l nm).length ≤ 5000 := by
  have h1 := setI_len (usersL l nm)
  have h2 := flatMap_le hs (insideS l nm)
  have h3 := inside_len hs nm
  have h4 := usersOf_le hs nm
  simp only [usersL, List.length_append] at h1
  simp only [usersS, usersL]; omega
theorem w_group_In {C : Ctx} (hU : C.TP i_group_Users = some G_Users) (hC : C.TP i_slices_Contains_Lint_int = some (inG dInts aInt)) {x : AV} {l : List Group} (hx : dGroups x = some l) (hs : SmallU l) (nm : Nm) (u : Int) :
    FnW C c_group_In r_group_In [x, .str nm, .int .i64 u] (.bool (inB l nm u)) := by
  unfold FnW c_group_In r_group_In
  generalize hv : AV.bool (inB l nm u) = v
  have h1 : G_Users [x, .str nm] = some (ansU (cellU x nm) (usersS l nm)) := by simp only [G_Users, hx]; rw [if_pos hs]
  have h3 := usersS_len hs nm
  have h2 : inG dInts aInt [ansU (cellU x nm) (usersS l nm), .int .i64 u] = some (.bool ((usersS l nm).contains u)) := by simp only [inG, ansU_ints, aInt]; rw [if_pos (by simp only [LI]; omega)]
  simp +contextual -implicitDefEqProofs [callA_fix hU, h1, dSl_fix hx, callA_fix hC, Fix.one ansU_fix, h2]
  rw [← hv, inB]; simp
def appB (p : Policy) (r : Rule) (u : Int) (repo path : List UInt8) : Bool := (r.repo.isEmpty || r.repo == repo) && globB r.glob path && inB p.groups r.group u
def G_glob_Match : List AV → Option AV
  | [.str g, .str p] => if p.length ≤ 1000000 then some (.bool (globB g p)) else none
  | _ => none
open Classical in
noncomputable def G_applies : List AV → Option AV
  | [v, .agg c, .int .i64 u, .str repo, .str path] => match dPolicy v, dRule c with
    | some p, some r => if SmallU p.groups ∧ path.length ≤ 1000000 then some (.bool (appB p r u repo path)) else none
    | _, _ => none
  | _ => none
theorem w_access_applies {C : Ctx} (hM : C.TP i_glob_Match = some G_glob_Match) (hI : C.TP i_group_In = some G_In) {v : AV} {p : Policy} (hp : dPolicy v = some p) (r : Rule) (u : Int) (repo path : List UInt8) (hs : SmallU p.groups) (hl : path.length ≤ 1000000) :
    FnW C c_access_applies r_access_applies [v, .agg [.bool r.allow, .str r.group, .str r.repo, .str r.glob], .int .i64 u, .str repo, .str path] (.bool (appB p r u repo path)) := by
  unfold FnW c_access_applies r_access_applies
  obtain ⟨x, y, rfl, a1, a2, a3, a4⟩ := dPolicy_inv hp
  generalize hv : AV.bool (appB p r u repo path) = w
  have h1 : G_In [x, .str r.group, .int .i64 u] = some (.bool (inB p.groups r.group u)) := by simp only [G_In, a1]; rw [if_pos hs]
  simp +contextual -implicitDefEqProofs [boxA, dSl_one a1, dSl_one a2, callA_fix hM, G_glob_Match, hl, callA_fix hI, dSl_fix a1, h1]
  rw [← hv, appB]
/-- The rule that decides. -/
noncomputable def decS (p : Policy) (u : Int) (repo path : List UInt8) : Int := if rightS p ≠ 0 then -1 else ixOf (fun r => appB p r u repo path) p.rules
noncomputable def G_deciding : List AV → Option AV
  | [v, .int .i64 u, .str repo, .str path] => match dPolicy v with
    | some p => if path.length ≤ 1000000 then some (.int .i64 (decS p u repo path)) else none
    | _ => none
  | _ => none
theorem w_access_Deciding {C : Ctx} (hR : C.TP i_access_Right = some G_right) (hA : C.TP i_access_applies = some G_applies) {v : AV} {p : Policy} (hp : dPolicy v = some p) (u : Int) (repo path : List UInt8) (hl : path.length ≤ 1000000) :
    FnW C c_access_Deciding r_access_Deciding [v, .int .i64 u, .str repo, .str path] (.int .i64 (decS p u repo path)) := by
  unfold FnW c_access_Deciding r_access_Deciding
  have hG : G_right [v] = some (.int .i64 (rightS p)) := by simp [G_right, hp]
  obtain ⟨x, y, rfl, a1, a2, a3, a4⟩ := dPolicy_inv hp
  generalize hv : AV.int .i64 (decS p u repo path) = w
  simp +contextual -implicitDefEqProofs [boxA, dSl_one a1, dSl_one a2, callA_fix hR, dSl_fix1 a1, dSl_fix1 a2, hG]
  refine Ck_mk ?_ ?_ <;> intro hq
  · simp +contextual -implicitDefEqProofs
    rw [← hv, decS, if_pos (by simpa using hq)]
  · have hq' : ¬ rightS p ≠ 0 := by simpa using hq
    rw [decS, if_neg hq'] at hv
    have hs := groups_smallU (right_groups (by simpa using hq'))
    have happ : ∀ r, dRule [.bool r.allow, .str r.group, .str r.repo, .str r.glob] = some r := fun r => rfl
    have hGA : ∀ r : Rule, G_applies [.agg [x, y], .agg [.bool r.allow, .str r.group, .str r.repo, .str r.glob], .int .i64 u, .str repo, .str path] = some (.bool (appB p r u repo path)) := fun r => by
      simp only [G_applies, hp, happ]; rw [if_pos ⟨hs, hl⟩]
    simp +contextual -implicitDefEqProofs [dSl_len a2]
    obtain ⟨J, hJ⟩ : ∃ J : Nat → Env → Nat → Hp → Prop, J = Scan [(4, .ptr 0 0 0), (1, .int .i64 u), (2, .str repo), (3, .str path), (15, .int .i64 p.rules.length)] [(0, .row [[x, y]] false)] fun j => ∀ hj : j < p.rules.length, appB p p.rules[j] u repo path = false := ⟨_, rfl⟩
    refine Wk_scan p.rules.length 16 0 J a4 (Nat.zero_le _) (by simp) (hJ ▸ ⟨by simp, by simp, Upto.zero⟩) ?_ ?_
    · intro i env n h _ hi hw ei hj
      rw [hJ] at hj
      obtain ⟨fe, fh, hpp⟩ := hj
      simp only [FE_cons, FE_nil, FH_cons, FH_nil, and_true] at fe fh
      obtain ⟨c, q1, q2⟩ := dSl_at a2 hi
      obtain rfl := dRule_inv q2
      simp +contextual -implicitDefEqProofs [ei, fe, fh, hi, q1, dSl_one a1, dSl_one a2, callA_fix hA, dSl_fix1 a1, dSl_fix1 a2, hGA]
      refine Ck_mk ?_ ?_ <;> intro hc
      · simp +contextual -implicitDefEqProofs [ei]
        rw [← hv, ixOf_at (p := fun r => appB p r u repo path) hi (fun j hj => hpp j hj _) hc]
      · simp +contextual -implicitDefEqProofs [ei, fe, fh, hw]
        rw [hJ]
        exact ⟨by simp [fe], by simp [fh], hpp.succ fun _ => hc⟩
    · intro env n h ei hj
      rw [hJ] at hj
      obtain ⟨fe, fh, hpp⟩ := hj
      simp only [FE_cons, FE_nil, FH_cons, FH_nil, and_true] at fe fh
      simp +contextual -implicitDefEqProofs [ei, fe, fh]
      rw [← hv, ixOf_none fun j hj => hpp j hj hj]
noncomputable def canS (p : Policy) (u : Int) (repo path : List UInt8) : Bool := decide (0 ≤ decS p u repo path) && (match p.rules[(decS p u repo path).toNat]? with
  | some r => r.allow
  | none => false)
noncomputable def G_can : List AV → Option AV
  | [v, .int .i64 u, .str repo, .str path] => match dPolicy v with
    | some p => if path.length ≤ 1000000 then some (.bool (canS p u repo path)) else none
    | _ => none
  | _ => none
theorem ixOf_lt {α : Type} {p : α → Bool} {l : List α} (h : 0 ≤ ixOf p l) : (ixOf p l).toNat < l.length := by
  unfold ixOf at *
  split at h
  · rename_i i hi
    rw [List.findIdx?_eq_some_iff_getElem] at hi
    simpa using hi.1
  · omega
theorem decS_lt {p : Policy} {u : Int} {repo path : List UInt8} (h : 0 ≤ decS p u repo path) : (decS p u repo path).toNat < p.rules.length := by
  unfold decS at *
  split at h
  · omega
  · rename_i q; rw [if_neg q]; exact ixOf_lt h
theorem w_access_Can {C : Ctx} (hD : C.TP i_access_Deciding = some G_deciding) {v : AV} {p : Policy} (hp : dPolicy v = some p) (u : Int) (repo path : List UInt8) (hl : path.length ≤ 1000000) :
    FnW C c_access_Can r_access_Can [v, .int .i64 u, .str repo, .str path] (.bool (canS p u repo path)) := by
  unfold FnW c_access_Can r_access_Can
  have hG : G_deciding [v, .int .i64 u, .str repo, .str path] = some (.int .i64 (decS p u repo path)) := by simp [G_deciding, hp, hl]
  obtain ⟨x, y, rfl, a1, a2, a3, a4⟩ := dPolicy_inv hp
  generalize hv : AV.bool (canS p u repo path) = w
  by_cases h0 : 0 ≤ decS p u repo path
  · have hlt := decS_lt h0
    obtain ⟨i, hi⟩ : ∃ i : Nat, decS p u repo path = i := ⟨(decS p u repo path).toNat, by omega⟩
    rw [hi] at hG h0 hlt
    simp only [Int.toNat_natCast] at hlt
    obtain ⟨c, q1, q2⟩ := dSl_at a2 hlt
    obtain rfl := dRule_inv q2
    simp +contextual -implicitDefEqProofs [boxA, dSl_one a1, dSl_one a2, callA_fix hD, dSl_fix1 a1, dSl_fix1 a2, hG, h0, q1]
    rw [← hv, canS, hi]
    simp [hlt]
  · simp +contextual -implicitDefEqProofs [boxA, dSl_one a1, dSl_one a2, callA_fix hD, dSl_fix1 a1, dSl_fix1 a2, hG, h0]
    rw [← hv, canS]
    simp [h0]
end Go.Pv.T
namespace Go.Pv.T
open Go Go.Pv
set_option linter.unusedSimpArgs false
set_option linter.unusedVariables false

noncomputable def readersN (p : Policy) (repo path : List UInt8) (i : Nat) : List Int := ((List.range i).filter fun (j : Nat) => canS p ((j : Int) + 1) repo path).map fun (j : Nat) => (j : Int) + 1
noncomputable def readersS (p : Policy) (repo path : List UInt8) : List Int := readersN p repo path 16
noncomputable def G_readers : List AV → Option AV
  | [v, .str repo, .str path] => match dPolicy v with
    | some p => if path.length ≤ 1000000 then some (mkSl 1 (rowI (readersS p repo path))) else none
    | _ => none
  | _ => none
theorem readersN_succ (p : Policy) (repo path : List UInt8) (i : Nat) : readersN p repo path (i + 1) = readersN p repo path i ++ (if canS p ((i : Int) + 1) repo path = true then [(i : Int) + 1] else []) := by
  unfold readersN
  rw [List.range_succ, List.filter_append, List.map_append]
  congr 1
  by_cases h : canS p ((i : Int) + 1) repo path = true <;> simp [h]
theorem readersN_len (p : Policy) (repo path : List UInt8) (i : Nat) : (readersN p repo path i).length ≤ i := by
  unfold readersN
  rw [List.length_map]
  refine Nat.le_trans (List.length_filter_le _ _) ?_
  simp
theorem rowI_fix (l : List Int) : ∀ e ∈ rowI l, ∀ x ∈ e, Fix1 x := by
  intro e he x hx
  simp only [rowI, List.mem_map] at he
  obtain ⟨z, _, rfl⟩ := he
  simp at hx; subst hx; simp
theorem w_access_Readers {C : Ctx} (hK : C.TP i_access_Can = some G_can) {v : AV} {p : Policy} (hp : dPolicy v = some p) (repo path : List UInt8) (hl : path.length ≤ 1000000) :
    FnW C c_access_Readers r_access_Readers [v, .str repo, .str path] (mkSl 1 (rowI (readersS p repo path))) := by
  unfold FnW c_access_Readers r_access_Readers
  have hG : ∀ u, G_can [v, .int .i64 u, .str repo, .str path] = some (.bool (canS p u repo path)) := fun u => by simp [G_can, hp, hl]
  obtain ⟨x, y, rfl, a1, a2, a3, a4⟩ := dPolicy_inv hp
  generalize hv : mkSl 1 (rowI (readersS p repo path)) = w
  simp +contextual -implicitDefEqProofs [boxA, dSl_one a1, dSl_one a2]
  obtain ⟨J, hJ⟩ : ∃ J : Nat → Env → Nat → Hp → Prop, J = fun i env n h => FE env [(3, .ptr 0 0 0), (1, .str repo), (2, .str path)] ∧ FH h n [(0, .row [[x, y]] false)] ∧ Own h 1 n 1 (env 7) (rowI (readersN p repo path i)) := ⟨_, rfl⟩
  refine Wk_scan 16 9 0 J (by decide) (by decide) (by simp) (hJ ▸ ⟨by simp, by simp, .inl ⟨by simp, rfl⟩⟩) ?_ ?_
  · intro i env n h _ hi hw ei hj
    rw [hJ] at hj
    obtain ⟨fe, fh, o⟩ := hj
    simp only [FE_cons, FE_nil, FH_cons, FH_nil, and_true] at fe fh
    have hi16 : (i : Int) < 16 := by omega
    simp +contextual -implicitDefEqProofs [ei, fe, fh, hi16, hw, dSl_one a1, dSl_one a2, callA_fix hK, dSl_fix1 a1, dSl_fix1 a2, hG]
    refine Ck_mk ?_ ?_ <;> intro hc
    · obtain ⟨v', ws, e, o', hk, -⟩ := Own.append (n := n + 1) (x := .arr n 0 1 1 1 false) (new := [[.int .i64 ((i : Int) + 1)]]) (o.keep (h' := upd h n (.row [[.int .i64 ((i : Int) + 1)]] false)) (Nat.le_refl _) fun j _ hj => by rw [upd_get, if_neg (by omega)]) (by omega) (by omega) (by simp [elsOf]) (by simp) (by have := readersN_len p repo path i; rw [rowI_len]; simp [lenLim]; omega)
      have hn0 : ¬ 0 = n := by omega
      simp +contextual -implicitDefEqProofs [ei, fe, fh, hw, fillE, e]
      rw [hJ]
      refine ⟨by simp [fe], ?_, ?_⟩
      · simp only [FH_cons, FH_nil, and_true]
        exact ⟨by rw [hk 0 (by omega) (o.dies (by omega))]; simp [hn0, fh], by omega⟩
      · rw [readersN_succ, if_pos hc]
        have : rowI (readersN p repo path i ++ [(i : Int) + 1]) = rowI (readersN p repo path i) ++ [[.int .i64 ((i : Int) + 1)]] := by simp [rowI]
        rw [this]
        exact .inr (by simpa using o')
    · simp +contextual -implicitDefEqProofs [ei, fe, fh, hw]
      rw [hJ]
      refine ⟨by simp [fe], by simp [fh], ?_⟩
      rw [readersN_succ, if_neg (by simp [hc])]
      simpa using o
  · intro env n h ei hj
    rw [hJ] at hj
    obtain ⟨fe, fh, o⟩ := hj
    simp only [FE_cons, FE_nil, FH_cons, FH_nil, and_true] at fe fh
    obtain ⟨ids, hsn⟩ := o.snap (rowI_fix _) 10
    have hsn' : snap h snapD (env 7) = some (mkSl 1 (rowI (readersN p repo path 16)), ids) := hsn
    simp +contextual -implicitDefEqProofs [ei, fe, fh, hsn']
    exact hv
end Go.Pv.T
namespace Go.Pv.T
open Go Go.Pv
set_option linter.unusedSimpArgs false
set_option linter.unusedVariables false

/-! ### the example -/
abbrev bDev : List UInt8 := [100, 101, 118]
abbrev bCore : List UInt8 := [99, 111, 114, 101]
abbrev bX : List UInt8 := [120]
abbrev bAA : List UInt8 := [42, 42]
abbrev bSec : List UInt8 := [115, 101, 99, 114, 101, 116, 47, 42, 42]
abbrev bA : List UInt8 := [97, 46, 115, 114, 99]
abbrev bSA : List UInt8 := [115, 101, 99, 114, 101, 116, 47, 97, 46, 115, 114, 99]
def exG : AV := .lst 3 [[.str bDev, .lst 1 [[.int .i64 1], [.int .i64 2]] true, .nils]] true
def exR : AV := .lst 4 [[.bool false, .str bDev, .str bCore, .str bSec], [.bool true, .str bDev, .str [], .str bAA]] true
def exV : AV := .agg [exG, exR]
def exL : List Group := [⟨bDev, [1, 2], []⟩]
def exP : Policy := ⟨exL, [⟨false, bDev, bCore, bSec⟩, ⟨true, bDev, [], bAA⟩]⟩
theorem exG_d : dGroups exG = some exL := rfl
theorem exV_d : dPolicy exV = some exP := by
  have : dRules exR = some [⟨false, bDev, bCore, bSec⟩, ⟨true, bDev, [], bAA⟩] := rfl
  simp [dPolicy, exV, exG_d, this, exP, exL, LI]
def G_example : List AV → Option AV
  | [] => some exV
  | _ => none
theorem w_law44_example {C : Ctx} : FnW C c_law44_example r_law44_example [] exV := by
  unfold FnW c_law44_example r_law44_example
  simp +contextual -implicitDefEqProofs [fillE, fillA]
  rfl
theorem inB_mem (l : List Group) (nm : Nm) (u : Int) : inB l nm u = decide (u ∈ usersL l nm) := by
  unfold inB usersS
  rw [Bool.eq_iff_iff]
  simp [setI_mem]
theorem ex_in (u : Int) : inB exL bDev u = decide (u = 1 ∨ u = 2) := by
  rw [inB_mem]
  have : usersL exL bDev = [1, 2] := by decide
  rw [this]; simp
theorem no_reach {l : List Group} (h : ∀ g ∈ l, g.groups = []) (a b : Nm) : ¬ Reach l a b := by
  intro r
  have hc : ∀ a, childs l a = [] := fun a => by
    unfold childs
    cases hf : fnd l a with
    | none => rfl
    | some g => exact h g (List.mem_of_find?_eq_some hf)
  cases r with
  | one q => rw [hc] at q; cases q
  | step q _ => rw [hc] at q; cases q
theorem ex_groups : groupsErr exL = 0 := by
  unfold groupsErr
  rw [if_neg (by decide), if_neg (by decide), if_neg (by rintro ⟨g, _, hr⟩; exact no_reach (by decide) _ _ hr), if_neg (by decide)]
theorem ex_right (rs : List Rule) (h : rs.length ≤ 24) : rightS ⟨exL, rs⟩ = firstNZ (ruleAt exL rs) rs.length := by
  unfold rightS
  rw [if_neg (by simp [ex_groups]), if_neg (by simpa using h)]
theorem ex_right0 : rightS exP = 0 := by rw [exP, ex_right _ (by decide)]; decide
theorem ex_g1 : globB bSec bA = false := by decide
theorem ex_g2 : globB bSec bSA = true := by decide
theorem ex_g3 : globB bAA bA = true := by decide
theorem ex_g4 : globB bAA bSA = true := by decide
theorem ex_dec (u : Int) (repo path : List UInt8) : decS exP u repo path = ixOf (fun r => appB exP r u repo path) exP.rules := by
  unfold decS; rw [if_neg (by simp [ex_right0])]
theorem ex_app0 (u : Int) (repo path : List UInt8) : appB exP ⟨false, bDev, bCore, bSec⟩ u repo path = ((bCore == repo) && globB bSec path && decide (u = 1 ∨ u = 2)) := by
  simp only [appB, exP, ex_in]; rfl
theorem ex_app1 (u : Int) (repo path : List UInt8) : appB exP ⟨true, bDev, [], bAA⟩ u repo path = (globB bAA path && decide (u = 1 ∨ u = 2)) := by
  simp only [appB, exP, ex_in]; simp
theorem ex_d1 : decS exP 1 bCore bA = 1 := by
  rw [ex_dec]
  exact ixOf_at (i := 1) (by decide) (fun j hj => by obtain rfl : j = 0 := (by omega); show appB exP ⟨false, bDev, bCore, bSec⟩ _ _ _ = _; rw [ex_app0, ex_g1]; decide) (by show appB exP ⟨true, bDev, [], bAA⟩ _ _ _ = _; rw [ex_app1, ex_g3]; decide)
theorem ex_d2 : decS exP 1 bCore bSA = 0 := by
  rw [ex_dec]
  exact ixOf_at (i := 0) (by decide) (fun j hj => by omega) (by show appB exP ⟨false, bDev, bCore, bSec⟩ _ _ _ = _; rw [ex_app0, ex_g2]; decide)
theorem ex_d3 : decS exP 1 bX bSA = 1 := by
  rw [ex_dec]
  exact ixOf_at (i := 1) (by decide) (fun j hj => by obtain rfl : j = 0 := (by omega); show appB exP ⟨false, bDev, bCore, bSec⟩ _ _ _ = _; rw [ex_app0, ex_g2]; decide) (by show appB exP ⟨true, bDev, [], bAA⟩ _ _ _ = _; rw [ex_app1, ex_g4]; decide)
theorem ex_d4 (u : Int) (hu : ¬ (u = 1 ∨ u = 2)) : decS exP u bCore bA = -1 := by
  rw [ex_dec]
  refine ixOf_none fun j hj => ?_
  have hj2 : j < 2 := hj
  match j, hj2 with
  | 0, _ => show appB exP ⟨false, bDev, bCore, bSec⟩ _ _ _ = _; rw [ex_app0]; simp [hu]
  | 1, _ => show appB exP ⟨true, bDev, [], bAA⟩ _ _ _ = _; rw [ex_app1]; simp [hu]
theorem ex_d5 : decS exP 2 bCore bA = 1 := by
  rw [ex_dec]
  exact ixOf_at (i := 1) (by decide) (fun j hj => by obtain rfl : j = 0 := (by omega); show appB exP ⟨false, bDev, bCore, bSec⟩ _ _ _ = _; rw [ex_app0, ex_g1]; decide) (by show appB exP ⟨true, bDev, [], bAA⟩ _ _ _ = _; rw [ex_app1, ex_g3]; decide)
theorem ex_c1 : canS exP 1 bCore bA = true := by unfold canS; rw [ex_d1]; rfl
theorem ex_c2 : canS exP 1 bCore bSA = false := by unfold canS; rw [ex_d2]; rfl
theorem ex_c3 : canS exP 1 bX bSA = true := by unfold canS; rw [ex_d3]; rfl
theorem ex_c4 (u : Int) (hu : ¬ (u = 1 ∨ u = 2)) : canS exP u bCore bA = false := by unfold canS; rw [ex_d4 u hu]; rfl
theorem ex_c5 : canS exP 2 bCore bA = true := by unfold canS; rw [ex_d5]; rfl
theorem ex_readers : readersS exP bCore bA = [1, 2] := by
  unfold readersS readersN
  have : (List.range 16).filter (fun (j : Nat) => canS exP ((j : Int) + 1) bCore bA) = (List.range 16).filter (fun (j : Nat) => decide (j < 2)) := by
    apply List.filter_congr
    intro j hj
    by_cases h : j < 2
    · match j, h with
      | 0, _ => exact ex_c1
      | 1, _ => exact ex_c5
    · rw [ex_c4 _ (by omega)]; simp; omega
  rw [this]; decide
theorem ex_r1 : rightS ⟨exL, [⟨false, bX, [], bAA⟩]⟩ = 8 := by rw [ex_right _ (by decide)]; decide
theorem ex_r2 : rightS ⟨exL, [⟨false, bDev, [97, 47, 98], bAA⟩]⟩ = 3 := by rw [ex_right _ (by decide)]; decide
theorem ex_r3 : rightS ⟨exL, [⟨false, bDev, [], [91]⟩]⟩ = 3 := by rw [ex_right _ (by decide)]; decide
def exT (a : AV) (r : List AV) : AV := .agg [a, .lst 4 [r] true]
theorem exT_d (r : Rule) (hr : r.repo.length ≤ LI) : dPolicy (exT exG [.bool r.allow, .str r.group, .str r.repo, .str r.glob]) = some ⟨exL, [r]⟩ := by
  have : dRules (.lst 4 [[.bool r.allow, .str r.group, .str r.repo, .str r.glob]] true) = some [r] := rfl
  simp only [LI] at hr
  simp [dPolicy, exT, exG_d, this, exL, LI, hr]
theorem snap_policy {h : Hp} {id : Nat} {e : List AV} (hr : h id = .row [e] false) (hf : ∀ x ∈ e, Fix1 x) : snapL h snapD [.agg [exG, .arr id 0 1 1 4 false]] = some ([exT exG e], [id]) := by
  have h1 : snap h 11 (.arr id 0 1 1 4 false) = some (.lst 4 [e] true, [id]) := snap_arrE (d := 9) hr rfl (by simpa using hf)
  have h2 : snap h 11 exG = some (exG, []) := (show Fix1 exG by unfold exG; simp).snap h 10
  have h3 : snap h 12 (.agg [exG, .arr id 0 1 1 4 false]) = some (exT exG e, [id]) := by
    rw [snap_aggE]
    simp only [snapLf, h1, h2]
    rfl
  show snapLf (snap h 12) [.agg [exG, .arr id 0 1 1 4 false]] = _
  simp only [snapLf, h3]
  rfl
theorem snap_two {h : Hp} (hr : h 1 = .row [[.int .i64 1], [.int .i64 2]] false) : snapL h snapD [mkSl 1 (rowI [1, 2]), .arr 1 0 2 2 1 false] = some ([mkSl 1 (rowI [1, 2]), .lst 1 [[.int .i64 1], [.int .i64 2]] true], [1]) := by
  have h1 : snap h 12 (.arr 1 0 2 2 1 false) = some (.lst 1 [[.int .i64 1], [.int .i64 2]] true, [1]) := snap_arrE (d := 10) hr rfl (by simp)
  have h2 : snap h 12 (mkSl 1 (rowI [1, 2])) = some (mkSl 1 (rowI [1, 2]), []) := (mkSl_fix1).snap h 11
  show snapLf (snap h 12) [mkSl 1 (rowI [1, 2]), .arr 1 0 2 2 1 false] = _
  simp only [snapLf, h1, h2]
  rfl
theorem right_pol {C : Ctx} (hG : C.TP i_access_Right = some G_right) {dr : Bool} {h : Hp} {n id : Nat} (r : Rule) (hl : r.repo.length ≤ LI) (hr : h id = .row [[.bool r.allow, .str r.group, .str r.repo, .str r.glob]] false) :
    callA C dr i_access_Right [.agg [exG, .arr id 0 1 1 4 false]] n h = some (.int .i64 (rightS ⟨exL, [r]⟩), [], n) :=
  callA_snap hG (snap_policy hr (by simp)) (by simp only [G_right, exT_d r hl]) rfl
theorem same_two {C : Ctx} (hI : C.TP i_ref44_SameInts = some (eqG dInts)) {dr : Bool} {h : Hp} {n : Nat} (hr : h 1 = .row [[.int .i64 1], [.int .i64 2]] false) :
    callA C dr i_ref44_SameInts [mkSl 1 (rowI [1, 2]), .arr 1 0 2 2 1 false] n h = some (.bool true, [], n) :=
  callA_snap hI (snap_two hr) rfl rfl
set_option maxHeartbeats 4000000 in
theorem w_law44_alive {C : Ctx} (hE : C.TP i_law44_example = some G_example) (hC : C.TP i_access_Can = some G_can) (hD : C.TP i_access_Deciding = some G_deciding) (hR : C.TP i_access_Readers = some G_readers)
    (hI : C.TP i_ref44_SameInts = some (eqG dInts)) (hG : C.TP i_access_Right = some G_right) (hS : C.TP i_access_Same = some G_Same) : FnW C c_law44_alive r_law44_alive [] (.bool true) := by
  unfold FnW c_law44_alive r_law44_alive
  have g0 : G_example [] = some (.agg [exG, exR]) := rfl
  have one1 : exG.one = true := rfl
  have one2 : exR.one = true := rfl
  have cl1 : exG.cells = [exG] := rfl
  have fx1 : Fix1 exG := by unfold exG; simp
  have fx2 : Fix1 exR := by unfold exR; simp
  have hcan : ∀ u repo path, path.length ≤ 1000000 → G_can [.agg [exG, exR], .int .i64 u, .str repo, .str path] = some (.bool (canS exP u repo path)) := fun u repo path h => by
    have := exV_d; simp only [exV] at this; simp only [G_can, this]; rw [if_pos h]
  have hdec : ∀ u repo path, path.length ≤ 1000000 → G_deciding [.agg [exG, exR], .int .i64 u, .str repo, .str path] = some (.int .i64 (decS exP u repo path)) := fun u repo path h => by
    have := exV_d; simp only [exV] at this; simp only [G_deciding, this]; rw [if_pos h]
  have c1 := hcan 1 bCore bA (by decide)
  have c2 := hcan 1 bCore bSA (by decide)
  have c3 := hcan 1 bX bSA (by decide)
  have c4 := hcan 3 bCore bA (by decide)
  have d1 := hdec 1 bCore bA (by decide)
  have d2 := hdec 1 bCore bSA (by decide)
  have d4 := hdec 3 bCore bA (by decide)
  rw [ex_c1] at c1; rw [ex_c2] at c2; rw [ex_c3] at c3; rw [ex_c4 3 (by decide)] at c4
  rw [ex_d1] at d1; rw [ex_d2] at d2; rw [ex_d4 3 (by decide)] at d4
  have rr : G_readers [.agg [exG, exR], .str bCore, .str bA] = some (mkSl 1 (rowI [1, 2])) := by
    have := exV_d; simp only [exV] at this; simp only [G_readers, this]; rw [if_pos (by decide), ex_readers]
  have r0 : G_right [.agg [exG, exR]] = some (.int .i64 0) := by
    have := exV_d; simp only [exV] at this; simp only [G_right, this, ex_right0]
  have s1 : G_Same [.agg [exG, exR], .agg [exG, exR]] = some (.bool true) := by
    have := exV_d; simp only [exV] at this; simp only [G_Same, this]; simp
  have s2 : G_Same [.agg [exG, exR], .agg [.nils, .nils]] = some (.bool false) := by
    have := exV_d; simp only [exV] at this
    have h0 : dPolicy (.agg [.nils, .nils]) = some ⟨[], []⟩ := rfl
    simp only [G_Same, this, h0]; rfl
  simp +contextual -implicitDefEqProofs [callA_fix hE, g0, one1, one2, cl1, fx1, fx2, callA_fix hC, c1, c2, c3, c4, callA_fix hD, d1, d2, d4, callA_fix hR, rr, fillE, fillA, same_two hI, right_pol hG ⟨false, bX, [], bAA⟩ (by decide), right_pol hG ⟨false, bDev, [97, 47, 98], bAA⟩ (by decide), right_pol hG ⟨false, bDev, [], [91]⟩ (by decide), ex_r1, ex_r2, ex_r3, r0, s1, s2, callA_fix hG, callA_fix hS, confL, pairsL, indL, rdI, rdI_callF hG, rdI_callF hS, rdI_callF hE, Nat.testBit]
end Go.Pv.T
