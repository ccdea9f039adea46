/- A part of the proof that AccessRights returns true wherever its input is of bulk at most 1048576: what the functions that it reaches answer. No theorem of the claim stands here. -/
import Derived.Test.YtedapkgjicmhjaaGreatDoorSb
namespace Go.Pv.T
open Go Go.Pv
set_option linter.unusedSimpArgs false
set_option linter.unusedVariables false

/-! ### patterns as the reference reads them -/
theorem indexByte_spec (c : UInt8) : ∀ (t : List UInt8), (Lib.indexByte t c < 0 → ∀ j (hj : j < t.length), t[j] ≠ c) ∧ ∀ k : Nat, Lib.indexByte t c = k → ∃ hk : k < t.length, t[k] = c ∧ ∀ j (hj : j < k), t[j]'(by omega) ≠ c := by
  intro t
  induction t with
  | nil => exact ⟨fun _ j hj => by simp at hj, fun k hk => by simp [Lib.indexByte] at hk⟩
  | cons x r ih =>
    have hge := Lib.indexByte_ge r c
    rw [Lib.indexByte]
    by_cases hx : x = c
    · subst hx
      refine ⟨fun h => by simp at h, fun k hk => ?_⟩
      obtain rfl : k = 0 := by simp at hk; omega
      exact ⟨by simp, rfl, fun j hj => absurd hj (Nat.not_lt_zero j)⟩
    · simp only [beq_iff_eq, hx, if_false]
      by_cases h1 : Lib.indexByte r c = -1
      · simp only [h1, if_true]
        refine ⟨fun _ j hj => ?_, fun k hk => by omega⟩
        cases j with
        | zero => exact hx
        | succ j => exact ih.1 (by omega) j (by simpa using hj)
      · simp only [h1, if_false]
        refine ⟨fun h => by omega, fun k hk => ?_⟩
        obtain ⟨k, rfl⟩ : ∃ j, k = j + 1 := ⟨k - 1, by omega⟩
        obtain ⟨h2, h3, h4⟩ := ih.2 k (by omega)
        refine ⟨by simpa using h2, h3, fun j hj => ?_⟩
        cases j with
        | zero => exact hx
        | succ j => exact h4 j (by omega)
def rsetV (g : List UInt8) (at_ : Nat) : AV :=
  if Lib.indexByte (g.drop at_) 93 < 0 then .tup [setV 5 false [], .int .i64 (-1)] else
  .tup [setV 5 (setS (((g.drop at_).take (Lib.indexByte (g.drop at_) 93).toNat).drop 1)).1 (setS (((g.drop at_).take (Lib.indexByte (g.drop at_) 93).toNat).drop 1)).2.1,
    .int .i64 (if (setS (((g.drop at_).take (Lib.indexByte (g.drop at_) 93).toNat).drop 1)).2.2 = true then (at_ : Int) + Lib.indexByte (g.drop at_) 93 + 1 else -1)]
def G_ref02_set : List AV → Option AV
  | [.str g, .int .i64 a] => if g.length ≤ 1000000 ∧ 0 ≤ a ∧ a < g.length ∧ g[a.toNat]?.getD 0 = 91 then some (rsetV g a.toNat) else none
  | _ => none
def Irset (g : List UInt8) (E : Nat) (neg : Bool) (rsA : List (UInt8 × UInt8)) (okA : Bool) (m : Nat) (env : Env) (n : Nat) (h : Hp) : Prop :=
  ∃ (p : Nat) (ds : List (UInt8 × UInt8)) (v3 : AV), m = E - p ∧ p ≤ E ∧ ds.length + (E - p) ≤ E ∧ rsA = ds ++ (rangesP ((g.take E).drop p)).1 ∧ okA = (rangesP ((g.take E).drop p)).2 ∧ 2 ≤ n ∧
    env 0 = .str g ∧ env 4 = .ptr 0 0 0 ∧ env 6 = .ptr 1 0 0 ∧ env 7 = .int .i64 E ∧ env 8 = .int .i64 p ∧ h 0 = .row [[.int .i64 0, .int .u8 0, .bool false, .nils]] false ∧ h 1 = .row [[.int .i64 5, .int .u8 0, .bool neg, v3]] false ∧ Own h 2 n 2 v3 (ds.map encR)
set_option maxHeartbeats 8000000 in
theorem w_ref02_set {C : Ctx} (g : List UInt8) (a : Nat) (hl : g.length ≤ 1000000) (ha : a < g.length) (h91 : g[a] = 91) : FnW C c_ref02_set r_ref02_set [.str g, .int .i64 a] (rsetV g a) := by
  unfold FnW c_ref02_set r_ref02_set
  generalize hv : rsetV g a = v
  have hwa : IntKind.i64.wrap ((a : Int) + 1) = ((a + 1 : Nat) : Int) := wrap_succ (by omega)
  obtain ⟨E, hE1, hE2, hE3, hE4⟩ : ∃ E : Nat, a + 1 ≤ E ∧ E ≤ g.length ∧ (∀ j, a + 1 ≤ j → j < E → ∀ hj : j < g.length, g[j] ≠ 93) ∧
      ((Lib.indexByte (g.drop a) 93 < 0 ∧ E = g.length) ∨ (Lib.indexByte (g.drop a) 93 = ((E - a : Nat) : Int) ∧ ∃ h : E < g.length, g[E] = 93)) := by
    obtain ⟨s1, s2⟩ := indexByte_spec 93 (g.drop a)
    by_cases hneg : Lib.indexByte (g.drop a) 93 < 0
    · refine ⟨g.length, by omega, Nat.le_refl _, fun j h1 h2 hj => ?_, .inl ⟨hneg, rfl⟩⟩
      have := s1 hneg (j - a) (by simp; omega)
      rw [List.getElem_drop] at this
      simpa [show a + (j - a) = j by omega] using this
    · obtain ⟨k, hk⟩ : ∃ k : Nat, Lib.indexByte (g.drop a) 93 = k := ⟨(Lib.indexByte (g.drop a) 93).toNat, by omega⟩
      obtain ⟨k1, k2, k3⟩ := s2 k hk
      simp at k1
      have hk0 : k ≠ 0 := by intro q; subst q; rw [List.getElem_drop] at k2; simp [h91] at k2
      refine ⟨a + k, by omega, by omega, fun j h1 h2 hj => ?_, .inr ⟨by rw [hk]; omega, by omega, by rw [List.getElem_drop] at k2; exact k2⟩⟩
      have := k3 (j - a) (by omega)
      rw [List.getElem_drop] at this
      simpa [show a + (j - a) = j by omega] using this
  simp +contextual -implicitDefEqProofs [fillA, hwa]
  obtain ⟨J, hJ⟩ : ∃ J : Nat → Env → Nat → Hp → Prop, J = fun i env n h => FE env [(0, .str g), (1, .int .i64 a), (4, .ptr 0 0 0), (6, .ptr 1 0 0)] ∧ n = 2 ∧ h 0 = .row [[.int .i64 0, .int .u8 0, .bool false, .nils]] false ∧ h 1 = .row [[.int .i64 5, .int .u8 0, .bool false, .nils]] false := ⟨_, rfl⟩
  refine Wk_scan E 7 (a + 1) J (by omega) hE1 (by simp) (hJ ▸ by simp) ?_ ?_
  · intro i env n h h0i hi hw ei hj
    rw [hJ] at hj
    obtain ⟨fe, rfl, f0, f1⟩ := hj
    simp only [FE_cons, FE_nil, and_true] at fe
    have hig : i < g.length := by omega
    have hne := hE3 i h0i hi hig
    have hne' : ¬ (g[i].toNat : Int) = 93 := fun q => hne (UInt8.toNat_inj.1 (by simp; omega))
    simp +contextual -implicitDefEqProofs [ei, fe, hig, hne', hw]
    rw [hJ]
    exact ⟨by simp [fe], rfl, f0, f1⟩
  · intro env n h ei hj
    rw [hJ] at hj
    obtain ⟨fe, rfl, f0, f1⟩ := hj
    simp only [FE_cons, FE_nil, and_true] at fe
    rcases hE4 with ⟨hneg, rfl⟩ | ⟨hix, hEl, hE93⟩
    · simp +contextual -implicitDefEqProofs [ei, fe, f0, f1]
      rw [snap_tup (by intro y hy; simp at hy; rcases hy with rfl | rfl <;> simp)]
      rw [← hv, rsetV, if_pos hneg]
      simp [setV, mkSl]
    · have h93' : (g[E].toNat : Int) = 93 := by rw [hE93]; rfl
      have hge : ¬ (g.length : Int) ≤ E := by omega
      have hnl : ¬ g.length ≤ E := by omega
      have hct : ((g.drop a).take (Lib.indexByte (g.drop a) 93).toNat).drop 1 = (g.take E).drop (a + 1) := by
        rw [hix, Int.toNat_natCast, List.take_drop, List.drop_drop, show a + (E - a) = E by omega]
      generalize hcc : (g.take E).drop (a + 1) = ct at hct
      have hctl : ct.length = E - (a + 1) := by rw [← hcc]; simp; omega
      obtain ⟨q1, q2⟩ := neg_eq ct
      have hcond : (decide ((a : Int) + 1 < E) && decide (((g[a + 1]?.getD 0).toNat : Int) = 33)) = (negOf ct).1 := by
        rw [← q1]
        by_cases h1 : a + 1 < E
        · have e1 : ct[0]? = g[a + 1]? := by rw [← hcc]; simp [List.getElem?_drop, List.getElem?_take, h1]
          have e2 : ct.isEmpty = false := by cases hc : ct <;> simp_all <;> omega
          rw [e1, e2]
          have : (a : Int) + 1 < E := by omega
          simp [this]
        · have e2 : ct = [] := List.length_eq_zero_iff.1 (by omega)
          have : ¬ (a : Int) + 1 < E := by omega
          simp [this, e2]
      have hE1' : (0 : Int) ≤ a + 1 := by omega
      simp +contextual -implicitDefEqProofs [ei, fe, f0, f1, hEl, h93', hge, hnl, hwa]
      refine ⟨fun _ => by omega, ?_⟩
      rw [rsetV, if_neg (by omega), hct, hix] at hv
      generalize hng : (negOf ct).1 = neg at *
      have hvs : setS ct = (neg, (rangesP (negOf ct).2).1, (rangesP (negOf ct).2).2 && !(rangesP (negOf ct).2).1.isEmpty) := by rw [setS, hng]
      rw [hvs] at hv
      generalize htt : (negOf ct).2 = tt at *
      refine Ck_join (fun env n h => ∃ m, Irset g E neg (rangesP tt).1 (rangesP tt).2 m env n h) ?_ ?_ ?_
      · intro hq
        have hnt : neg = true := by rw [← hcond]; exact hq
        have hE2' : a + 1 < E := by simp at hq; omega
        simp +contextual -implicitDefEqProofs [fe, f0, f1, ei]
        have hw2 : IntKind.i64.wrap ((a : Int) + 1 + 1) = ((a + 2 : Nat) : Int) := by rw [wrap_in (by omega) (by omega)]; omega
        refine ⟨E - (a + 2), a + 2, [], .nils, rfl, by omega, by simp, ?_, ?_, by omega, by simp [fe], by simp [fe], by simp [fe], by simp [ei], by simp [hw2], by simp [f0], by simp [hnt], .nil⟩
        · rw [q2, hnt, ← hcc]; simp [List.drop_drop]
        · rw [q2, hnt, ← hcc]; simp [List.drop_drop]
      · intro hq
        have hnf : neg = false := by rw [← hcond]; exact hq
        simp +contextual -implicitDefEqProofs [fe, f0, f1, ei]
        refine ⟨E - (a + 1), a + 1, [], .nils, rfl, by omega, by simp, ?_, ?_, by omega, by simp [fe], by simp [fe], by simp [fe], by simp [ei], by simp, by simp [f0], by simp [hnf, f1], .nil⟩
        · rw [q2, hnf, ← hcc]; simp
        · rw [q2, hnf, ← hcc]; simp
      · rintro env n h ⟨m, hI⟩
        simp +contextual -implicitDefEqProofs
        refine Wk_loop (Irset g E neg (rangesP tt).1 (rangesP tt).2) m hI ?_
        rintro m env n h ⟨p, ds, v3, rfl, hpE, h1, h2, h3, h4, g0, g4, g6, g7, g8, gh0, gh1, hO⟩
        simp +contextual -implicitDefEqProofs [g0, g4, g6, g7, g8]
        refine Ck_mk ?_ ?_ <;> intro hlt
        · have hpE' : p < E := by simpa using hlt
          generalize hrr : (g.take E).drop p = rest at h2 h3
          have hrl : rest.length = E - p := by rw [← hrr]; simp; omega
          have hrne : rest ≠ [] := by intro q; rw [q] at hrl; simp at hrl; omega
          have hr0 : rest[0]? = g[p]? := by rw [← hrr]; simp [List.getElem?_drop, List.getElem?_take, hpE']
          have hr1 : p + 2 < E → rest[1]? = g[p + 1]? := fun q => by rw [← hrr]; simp [List.getElem?_drop, List.getElem?_take]; omega
          have hr2 : p + 2 < E → rest[2]? = g[p + 2]? := fun q => by rw [← hrr]; simp [List.getElem?_drop, List.getElem?_take, q]
          obtain ⟨st1, st2⟩ := stepR_eq rest hrne
          have hrs := rangesP_step rest hrne
          have hw1 : IntKind.i64.wrap ((p : Int) + 1) = ((p : Int) + 1) := wrap_in (by omega) (by omega)
          have hw2 : IntKind.i64.wrap ((p : Int) + 2) = ((p : Int) + 2) := wrap_in (by omega) (by omega)
          have hw3 : IntKind.i64.wrap ((p : Int) + 3) = ((p : Int) + 3) := wrap_in (by omega) (by omega)
          have hp0 : (0 : Int) ≤ (p : Int) + 1 := by omega
          have hp2 : (0 : Int) ≤ (p : Int) + 2 := by omega
          have hpg : p < g.length := by omega
          have hcnd : (decide ((p : Int) + 2 < E) && decide (((g[p + 1]?.getD 0).toNat : Int) = 45)) = (decide ((2 : Int) < rest.length) && decide (((rest[1]?.getD 0).toNat : Int) = 45)) := by
            by_cases q : p + 2 < E
            · have e1 : (p : Int) + 2 < E := by omega
              have e2 : (2 : Int) < rest.length := by rw [hrl]; omega
              simp only [e1, e2, hr1 q]
            · have e1 : ¬ (p : Int) + 2 < E := by omega
              have e2 : ¬ (2 : Int) < rest.length := by rw [hrl]; omega
              simp [e1, e2]
          simp +contextual -implicitDefEqProofs [g0, g4, g6, g7, g8, hw1, hw2, hp0, hp2]
          refine ⟨fun q => by omega, ?_⟩
          refine Ck_mk ?_ ?_ <;> intro hq
          · have hst := st1 (by rw [← hcnd]; exact hq)
            have hp3 : p + 2 < E := by simp at hq; omega
            have hg2 : p + 2 < g.length := by omega
            have e1 : (stepR rest).1 = g[p] := by rw [hst, hr0]; simp [hpg]
            have e2 : (stepR rest).2.1 = g[p + 2] := by rw [hst, hr2 hp3]; simp [hg2]
            have e3 : (stepR rest).2.2 = 3 := by rw [hst]
            have hg2' : (p : Int) + 2 < g.length := by omega
            have ht2 : ((p : Int) + 2).toNat = p + 2 := by omega
            simp +contextual -implicitDefEqProofs [g0, g4, g6, g7, g8, hw1, hw2, hp0, hp2, hpg, hg2, hg2', ht2]
            refine Ck_mk ?_ ?_ <;> intro hd
            · have hlt' : (stepR rest).2.1 < (stepR rest).1 := by rw [e1, e2]; simp at hd; exact UInt8.lt_iff_toNat_lt.2 hd
              rw [if_pos hlt'] at hrs
              obtain ⟨ids, hsn⟩ := snap_set (h := upd h 0 (.row [[.int .i64 5, .int .u8 0, .bool neg, v3]] false)) (k := 5) (c := 0) (b := neg) (w := .int .i64 (-1)) (hO.keep (Nat.le_refl _) fun j hj _ => by simp [show ¬ j = 0 by omega]) (encR_fix _) (by simp)
              simp +contextual -implicitDefEqProofs [g4, g6, gh0, gh1, hO.one, hsn]
              rw [← hv, h2, h3, hrs]
              simp [setV]
            · obtain ⟨v', ws, e, o', hk, hws⟩ := Own.append (n := n + 1) (x := .arr n 0 1 1 2 false) (new := [encR (g[p], g[p + 2])]) (hO.keep (h' := upd h n (.row [encR (g[p], g[p + 2])] false)) (Nat.le_refl _) fun j _ hj => by simp [show ¬ j = n by omega]) (by omega) (by omega) (by simp [elsOf]) (by simp) (by simp [lenLim]; omega)
              simp only [encR] at e
              obtain ⟨iv, hiv, hivm⟩ := hO.ids
              have H0 := hk 0 (by omega) (hO.dies (by omega))
              have H1 := hk 1 (by omega) (hO.dies (by omega))
              simp only [encR] at o' H0 H1
              rw [upd_get, if_neg (by omega), gh0] at H0
              rw [upd_get, if_neg (by omega), gh1] at H1
              have hone : v'.one = true := (Own.one (.inr o'))
              have hce : v'.cells = [v'] := (Own.cells (.inr o'))
              have hw1n : ∀ x, (1, x) ∈ ws → False := fun x q => by
                rcases hws _ q with q | q
                · simp at q; omega
                · exact hO.dies (by simp) q
              have hn1 : ¬ n = 1 := by omega
              have hn1' : ¬ 1 = n := by omega
              have hiv1 : ¬ 1 ∈ iv := fun q => by have := (hivm 1 q).1; omega
              have hlt' : ¬ (stepR rest).2.1 < (stepR rest).1 := by rw [e1, e2, UInt8.lt_iff_toNat_lt]; simp at hd; omega
              rw [if_neg hlt', e1, e2, e3] at hrs
              simp +contextual -implicitDefEqProofs [g0, g4, g6, g7, g8, gh1, hw1, hw2, hw3, hp0, hp2, hpg, hg2, hg2', ht2, e, hiv, fillA, fillE, H0, H1, hone, hce, hw1n, hn1, hn1', hiv1, confL, pairsL, indL, rdI, Nat.testBit]
              refine ⟨E - (p + 3), by omega, p + 3, ds ++ [(g[p], g[p + 2])], v', rfl, by omega, by simp; omega, by rw [h2, hrs, ← hrr, List.drop_drop]; simp, by rw [h3, hrs, ← hrr, List.drop_drop], by omega, by simp [g0], by simp [g4], by simp [g6], by simp [g7], by simp, by simp [H0], by simp, ?_⟩
              simp only [List.map_append, List.map_cons, List.map_nil, encR]
              exact Or.inr (o'.keep (Nat.le_refl _) fun j hj _ => by simp [show ¬ j = 1 by omega])
          · have hst := st2 (by rw [← hcnd]; exact hq)
            have e1 : (stepR rest).1 = g[p] := by rw [hst, hr0]; simp [hpg]
            have e2 : (stepR rest).2.1 = g[p] := by rw [hst, hr0]; simp [hpg]
            have e3 : (stepR rest).2.2 = 1 := by rw [hst]
            have hlt' : ¬ (stepR rest).2.1 < (stepR rest).1 := by rw [e1, e2, UInt8.lt_iff_toNat_lt]; omega
            rw [if_neg hlt', e1, e2, e3] at hrs
            obtain ⟨v', ws, e, o', hk, hws⟩ := Own.append (n := n + 1) (x := .arr n 0 1 1 2 false) (new := [encR (g[p], g[p])]) (hO.keep (h' := upd h n (.row [encR (g[p], g[p])] false)) (Nat.le_refl _) fun j _ hj => by simp [show ¬ j = n by omega]) (by omega) (by omega) (by simp [elsOf]) (by simp) (by simp [lenLim]; omega)
            simp only [encR] at e
            obtain ⟨iv, hiv, hivm⟩ := hO.ids
            have H0 := hk 0 (by omega) (hO.dies (by omega))
            have H1 := hk 1 (by omega) (hO.dies (by omega))
            simp only [encR] at o' H0 H1
            rw [upd_get, if_neg (by omega), gh0] at H0
            rw [upd_get, if_neg (by omega), gh1] at H1
            have hone : v'.one = true := (Own.one (.inr o'))
            have hce : v'.cells = [v'] := (Own.cells (.inr o'))
            have hw1n : ∀ x, (1, x) ∈ ws → False := fun x q => by
                  rcases hws _ q with q | q
                  · simp at q; omega
                  · exact hO.dies (by simp) q
            have hn1 : ¬ n = 1 := by omega
            have hn1' : ¬ 1 = n := by omega
            have hiv1 : ¬ 1 ∈ iv := fun q => by have := (hivm 1 q).1; omega
            simp +contextual -implicitDefEqProofs [g0, g4, g6, g7, g8, gh1, hw1, hw2, hw3, hp0, hp2, hpg, e, hiv, fillA, fillE, H0, H1, hone, hce, hw1n, hn1, hn1', hiv1, confL, pairsL, indL, rdI, Nat.testBit]
            refine ⟨E - (p + 1), by omega, p + 1, ds ++ [(g[p], g[p])], v', rfl, by omega, by simp; omega, by rw [h2, hrs, ← hrr, List.drop_drop]; simp, by rw [h3, hrs, ← hrr, List.drop_drop], by omega, by simp [g0], by simp [g4], by simp [g6], by simp [g7], by simp, by simp [H0], by simp, ?_⟩
            simp only [List.map_append, List.map_cons, List.map_nil, encR]
            exact Or.inr (o'.keep (Nat.le_refl _) fun j hj _ => by simp [show ¬ j = 1 by omega])
        · have hpE' : p = E := by
            have : ¬ (p < E) := by simpa using hlt
            omega
          subst hpE'
          have hnil : (g.take p).drop p = [] := List.length_eq_zero_iff.1 (by simp)
          rw [hnil] at h2 h3
          have hw1 : IntKind.i64.wrap ((p : Int) + 1) = ((p : Int) + 1) := wrap_in (by omega) (by omega)
          obtain ⟨ids, hsn⟩ := snap_set (h := upd h 0 (.row [[.int .i64 5, .int .u8 0, .bool neg, v3]] false)) (k := 5) (c := 0) (b := neg) (w := .int .i64 (-1)) (hO.keep (Nat.le_refl _) fun j hj _ => by simp [show ¬ j = 0 by omega]) (encR_fix _) (by simp)
          obtain ⟨ids', hsn'⟩ := snap_set (h := upd h 0 (.row [[.int .i64 5, .int .u8 0, .bool neg, v3]] false)) (k := 5) (c := 0) (b := neg) (w := .int .i64 ((p : Int) + 1)) (hO.keep (Nat.le_refl _) fun j hj _ => by simp [show ¬ j = 0 by omega]) (encR_fix _) (by simp)
          simp +contextual -implicitDefEqProofs [g4, g6, g7, gh0, gh1, hO.len]
          refine Ck_mk ?_ ?_ <;> intro hz
          · have : ds = [] := by simpa using hz
            simp +contextual -implicitDefEqProofs [g4, g6, g7, gh0, gh1, hO.one, hsn]
            rw [← hv, h2, h3, this]
            simp [setV, rangesP]
          · have : ds ≠ [] := by simpa using hz
            simp +contextual -implicitDefEqProofs [g4, g6, g7, gh0, gh1, hO.one, hsn', hw1]
            rw [← hv, h2, h3]
            cases ds with
            | nil => exact absurd rfl this
            | cons d0 dr => simp [setV, rangesP]; omega
end Go.Pv.T
namespace Go.Pv.T
open Go Go.Pv
set_option linter.unusedSimpArgs false
set_option linter.unusedVariables false

def encE : El → List AV
  | .ch c => [.int .i64 1, .int .u8 c.toNat, .bool false, .nils]
  | .q => [.int .i64 2, .int .u8 0, .bool false, .nils]
  | .star => [.int .i64 3, .int .u8 0, .bool false, .nils]
  | .dstar => [.int .i64 4, .int .u8 0, .bool false, .nils]
  | .set neg rs => [.int .i64 5, .int .u8 0, .bool neg, mkSl 2 (rs.map encR)]
theorem encE_fix (l : List El) : ∀ e ∈ l.map encE, ∀ x ∈ e, Fix1 x := by
  intro e he x hx
  simp only [List.mem_map] at he
  obtain ⟨p, _, rfl⟩ := he
  cases p <;> simp [encE] at hx
  all_goals (rcases hx with rfl | rfl | rfl | rfl <;> simp)
def elemsV (t : List UInt8) : AV := match parseS t with
  | some l => .tup [mkSlZ 4 (l.map encE), .bool true]
  | none => .tup [.nils, .bool false]
def G_ref02_elems : List AV → Option AV
  | [.str s] => if s.length ≤ 1000000 ∧ s.all prB = true then some (elemsV s) else none
  | _ => none
/-- How many asterisks a text begins with. -/
def lead : List UInt8 → Nat
  | 42 :: r => lead r + 1
  | _ => 0
theorem lead_cons (a : UInt8) (r : List UInt8) : lead (a :: r) = if a = 42 then lead r + 1 else 0 := by
  by_cases h : a = 42
  · subst h; simp [lead]
  · rw [if_neg h]; unfold lead; split <;> simp_all
theorem lead_spec : ∀ (t : List UInt8), lead t ≤ t.length ∧ (∀ j, j < lead t → t[j]?.getD 0 = 42) ∧ (lead t < t.length → t[lead t]?.getD 0 ≠ 42) := by
  intro t
  induction t with
  | nil => simp [lead]
  | cons a r ih =>
    rw [lead_cons]
    by_cases h : a = 42
    · rw [if_pos h]
      refine ⟨by simp; exact ih.1, fun j hj => ?_, fun hl => ?_⟩
      · cases j with
        | zero => simpa using h
        | succ j => simpa using ih.2.1 j (by omega)
      · simpa using ih.2.2 (by simpa using hl)
    · rw [if_neg h]
      exact ⟨by simp, fun j hj => absurd hj (Nat.not_lt_zero j), fun _ => by simpa using h⟩
theorem lead_pre2 (t : List UInt8) : [42, 42].isPrefixOf t = decide (2 ≤ lead t) ∧ [42, 42, 42].isPrefixOf t = decide (3 ≤ lead t) := by
  have e : ∀ x : UInt8, ((42 : UInt8) == x) = decide (x = 42) := fun x => by rw [Bool.eq_iff_iff]; simp; exact eq_comm
  cases t with
  | nil => exact ⟨rfl, rfl⟩
  | cons a r =>
    cases r with
    | nil => by_cases h1 : a = 42 <;> simp [lead_cons, List.isPrefixOf, h1, lead]
    | cons b r =>
      cases r with
      | nil => by_cases h1 : a = 42 <;> by_cases h2 : b = 42 <;> simp [lead_cons, List.isPrefixOf, e, h1, h2, lead]
      | cons c r => by_cases h1 : a = 42 <;> by_cases h2 : b = 42 <;> by_cases h3 : c = 42 <;> simp [lead_cons, List.isPrefixOf, e, h1, h2, h3]
/-- A step of the reference. -/
theorem elStep_pr {t : List UInt8} (h : t ≠ []) (hp : t.all prB = true) : elStep t = if (t.headD 0 == 91) = true then setAtS t else if (t.headD 0 == 93) = true then none else if (t.headD 0 == 42) = true then (if lead t > 2 then none else some (if lead t = 2 then .dstar else .star, lead t)) else if (t.headD 0 == 63) = true then some (.q, 1) else some (.ch (t.headD 0), 1) := by
  obtain ⟨a, r, rfl⟩ := List.exists_cons_of_ne_nil h
  obtain ⟨p2, p3⟩ := lead_pre2 (a :: r)
  have hpa : prB a = true := by simp at hp; exact hp.1
  unfold elStep
  rw [p2, p3]
  simp only [List.headD_cons, hpa, Bool.not_true, Bool.false_or]
  by_cases h91 : a = 91
  · subst h91
    have : lead (91 :: r) = 0 := by rw [lead_cons]; simp
    simp [this]
  · by_cases h93 : a = 93
    · subst h93; simp
    · by_cases h42 : a = 42
      · have hl1 : 1 ≤ lead (a :: r) := by rw [lead_cons, if_pos h42]; omega
        subst h42
        by_cases h3 : 3 ≤ lead (42 :: r)
        · have : lead (42 :: r) > 2 := by omega
          simp [h3, this]
        · have : ¬ lead (42 :: r) > 2 := by omega
          by_cases h2 : 2 ≤ lead (42 :: r)
          · have h2' : lead (42 :: r) = 2 := by omega
            simp [h2']
          · have h1' : lead (42 :: r) = 1 := by omega
            simp [h1']
      · have hl0 : lead (a :: r) = 0 := by rw [lead_cons, if_neg h42]
        simp [hl0, h91, h93, h42]
theorem setAtS_pr {t : List UInt8} (hp : t.all prB = true) : setAtS t = if Lib.indexByte t 93 < 0 then none else if (setS ((t.take (Lib.indexByte t 93).toNat).drop 1)).2.2 = true then some (.set (setS ((t.take (Lib.indexByte t 93).toNat).drop 1)).1 (setS ((t.take (Lib.indexByte t 93).toNat).drop 1)).2.1, (Lib.indexByte t 93).toNat + 1) else none := by
  unfold setAtS
  have : ((t.take (Lib.indexByte t 93).toNat).drop 1).all prB = true := by
    rw [List.all_eq_true] at *
    intro x hx
    exact hp x (List.mem_of_mem_take (List.mem_of_mem_drop hx))
  rw [this, Bool.and_true]
def Ielems (s : List UInt8) (m : Nat) (env : Env) (n : Nat) (h : Hp) : Prop :=
  ∃ (i : Nat) (ds : List El) (v4 : AV), m = s.length - i ∧ i ≤ s.length ∧ ds.length ≤ i ∧ parseS s = (parseS (s.drop i)).map (ds ++ ·) ∧ env 0 = .str s ∧ env 4 = v4 ∧ env 5 = .int .i64 i ∧ OwnZ h 0 n 4 v4 (ds.map encE)
set_option maxHeartbeats 8000000 in
theorem w_ref02_elems {C : Ctx} (hS : C.TP i_ref02_set = some G_ref02_set) (s : List UInt8) (hl : s.length ≤ 1000000) (hp : s.all prB = true) : FnW C c_ref02_elems r_ref02_elems [.str s] (elemsV s) := by
  unfold FnW c_ref02_elems r_ref02_elems
  generalize hv : elemsV s = v
  simp +contextual -implicitDefEqProofs [fillE]
  refine Wk_loop (Ielems s) s.length ⟨0, [], .arr 0 0 0 0 4 false, rfl, by simp, by simp, by simp, by simp, by simp, by simp, .inl ⟨0, by simp, rfl, by simp, rfl⟩⟩ ?_
  rintro m env n h ⟨i, ds, v4, rfl, h1, h2, h3, g0, g4, g5, hO⟩
  simp +contextual -implicitDefEqProofs [g0, g5]
  refine Ck_mk ?_ ?_ <;> intro hlt
  · have hi : i < s.length := by simpa using hlt
    generalize htt : s.drop i = t at h3
    have hne : t ≠ [] := by intro q; rw [q] at htt; have := congrArg List.length htt; simp at this; omega
    have htp : t.all prB = true := by
      rw [List.all_eq_true] at *
      intro x hx
      rw [← htt] at hx
      exact hp x (List.mem_of_mem_drop hx)
    have htl : t.length = s.length - i := by rw [← htt]; simp
    have hhd : t.headD 0 = s[i] := by
      rw [← htt]
      have : (s.drop i).head? = some s[i] := by rw [List.head?_drop, List.getElem?_eq_getElem hi]
      cases hd : s.drop i with
      | nil => rw [hd] at this; simp at this
      | cons a r => rw [hd] at this; simp at this; simp [this]
    have hst := elStep_pr hne htp
    rw [hhd] at hst
    have hw1 : IntKind.i64.wrap ((i : Int) + 1) = ((i : Int) + 1) := wrap_in (by omega) (by omega)
    have hfix : ∀ (c : UInt8) (k : Nat), k < 256 → c.toNat = k → c = UInt8.ofNat k := fun c k hk q => by rw [← q]; simp
    -- what is done where an element is laid down
    have grow : ∀ (x : El) (n0 : Nat) (h' : Hp), n ≤ n0 → (∀ j, j < n → h' j = h j) → ∃ v' ws, appendC 4 v4 (.arr n0 0 1 1 4 false) (n0 + 1) (upd h' n0 (.row [encE x] false)) = some (v', ws, n0 + 1 + 1) ∧ OwnZ (updW (upd h' n0 (.row [encE x] false)) ws) 0 (n0 + 1 + 1) 4 v' ((ds ++ [x]).map encE) := by
      intro x n0 h' hn hh
      obtain ⟨v', ws, e, o', hk⟩ := OwnZ.append (n := n0 + 1) (x := .arr n0 0 1 1 4 false) (new := [encE x]) (hO.keep (h' := upd h' n0 (.row [encE x] false)) (Nat.le_refl _) fun j _ hj => by rw [upd_get, if_neg (by omega), hh j hj]) (by omega) (by omega) (by simp [elsOf]) (by simp) (by simp [lenLim]; omega)
      exact ⟨v', ws, e, .inr (by simpa using o')⟩
    have back : ∀ (x : El) (k : Nat), elStep t = some (x, k) → parseS s = (parseS (s.drop (i + k))).map ((ds ++ [x]) ++ ·) := by
      intro x k hx
      rw [h3, parseS_some hne hx, ← htt, List.drop_drop]
      cases parseS (s.drop (i + k)) <;> simp
    have fail : elStep t = none → v = .tup [.nils, .bool false] := by
      intro hx
      rw [← hv, elemsV, h3, parseS_none hne hx]; rfl
    simp +contextual -implicitDefEqProofs [g0, g5, hi]
    refine Ck_mk ?_ ?_ <;> intro hq1
    · have h91 : s[i] = 91 := UInt8.toNat_inj.1 (by simp at hq1; simp; omega)
      rw [h91] at hst
      have hG : G_ref02_set [.str s, .int .i64 i] = some (rsetV s i) := by simp [G_ref02_set, hl, hi, h91]
      simp only [beq_self_eq_true, if_true] at hst
      rw [setAtS_pr htp] at hst
      by_cases hneg : Lib.indexByte t 93 < 0
      · rw [if_pos hneg] at hst
        have hr : rsetV s i = .tup [setV 5 false [], .int .i64 (-1)] := by rw [rsetV, htt, if_pos hneg]
        simp +contextual -implicitDefEqProofs [g0, g4, g5, hi, callA_fix hS, hG, hr, setV]
        rw [snap_tup (by intro y hy; simp at hy; rcases hy with rfl | rfl <;> simp), fail hst]
        simp
      · rw [if_neg hneg] at hst
        have hr := rsetV
        obtain ⟨k, hk⟩ : ∃ k : Nat, Lib.indexByte t 93 = k := ⟨(Lib.indexByte t 93).toNat, by omega⟩
        have hr : rsetV s i = .tup [setV 5 (setS ((t.take k).drop 1)).1 (setS ((t.take k).drop 1)).2.1, .int .i64 (if (setS ((t.take k).drop 1)).2.2 = true then (i : Int) + k + 1 else -1)] := by
          rw [rsetV, htt, if_neg hneg, hk, Int.toNat_natCast]
        rw [hk, Int.toNat_natCast] at hst
        generalize hss : setS ((t.take k).drop 1) = st at hst hr
        obtain ⟨ng, rs, ok⟩ := st
        cases ok with
        | false =>
          simp only [Bool.false_eq_true, if_false] at hst hr
          simp +contextual -implicitDefEqProofs [g0, g4, g5, hi, callA_fix hS, hG, hr, setV]
          rw [snap_tup (by intro y hy; simp at hy; rcases hy with rfl | rfl <;> simp), fail hst]
          simp
        | true =>
          simp only [if_true] at hst hr
          have hk1 : ¬ (i : Int) + k + 1 < 0 := by omega
          obtain ⟨v', ws, e, o'⟩ := grow (.set ng rs) (n + 1) (upd (upd h n (.row [[.int .i64 0, .int .u8 0, .bool false, .nils]] false)) n (.row [[.int .i64 5, .int .u8 0, .bool ng, mkSl 2 (rs.map encR)]] false)) (by omega) fun j hj => by simp [show ¬ j = n by omega]
          simp only [encE] at e o'
          obtain ⟨hk2, hk3⟩ := elStep_le hne hst
          simp +contextual -implicitDefEqProofs [g0, g4, g5, hi, callA_fix hS, hG, hr, setV, hk1, fillE, e]
          refine ⟨s.length - (i + (k + 1)), by omega, i + (k + 1), ds ++ [.set ng rs], v', rfl, by omega, by simp; omega, back _ _ hst, by simp [g0], by simp, by simp; omega, o'⟩
    · have h91 : ¬ (s[i] == 91) = true := by simp at hq1; simp; intro q; rw [q] at hq1; simp at hq1
      rw [if_neg h91] at hst
      simp +contextual -implicitDefEqProofs [g0, g4, g5, hi]
      refine Ck_mk ?_ ?_ <;> intro hq2
      · have h93 : s[i] = 93 := UInt8.toNat_inj.1 (by simp at hq2; simp; omega)
        rw [h93] at hst
        simp only [beq_self_eq_true, if_true] at hst
        simp +contextual -implicitDefEqProofs
        rw [snap_tup (by intro y hy; simp at hy; rcases hy with rfl | rfl <;> simp), fail hst]
        simp
      · have h93 : ¬ (s[i] == 93) = true := by simp at hq2; simp; intro q; rw [q] at hq2; simp at hq2
        rw [if_neg h93] at hst
        simp +contextual -implicitDefEqProofs [g0, g4, g5, hi]
        refine Ck_mk ?_ ?_ <;> intro hq3
        · have h42 : s[i] = 42 := UInt8.toNat_inj.1 (by simp at hq3; simp; omega)
          rw [h42] at hst
          simp only [beq_self_eq_true, if_true] at hst
          obtain ⟨l1, l2, l3⟩ := lead_spec t
          have hll : 1 ≤ lead t := by
            obtain ⟨a, r, rfl⟩ := List.exists_cons_of_ne_nil hne
            have : a = 42 := by simpa [h42] using hhd
            rw [lead_cons, if_pos this]; omega
          have hix : ∀ j, t[j]? = s[i + j]? := fun j => by rw [← htt, List.getElem?_drop]
          simp +contextual -implicitDefEqProofs
          obtain ⟨J, hJ⟩ : ∃ J : Nat → Env → Nat → Hp → Prop, J = fun _ env' n' h' => FE env' [(0, .str s), (4, v4), (5, .int .i64 i)] ∧ n' = n ∧ h' = h := ⟨_, rfl⟩
          refine Wk_scan (lead t) 8 1 J (by omega) hll (by simp) (hJ ▸ by simp [g0, g4, g5]) ?_ ?_
          · intro k env n' h' hk1 hk hw ei hj
            rw [hJ] at hj
            obtain ⟨fe, rfl, rfl⟩ := hj
            simp only [FE_cons, FE_nil, and_true] at fe
            have hwk : IntKind.i64.wrap ((i : Int) + k) = ((i : Int) + k) := wrap_in (by omega) (by omega)
            have hik : i + k < s.length := by omega
            have hik' : (i : Int) + k < s.length := by omega
            have ht : ((i : Int) + k).toNat = i + k := by omega
            have h0 : (0 : Int) ≤ (i : Int) + k := by omega
            have h42k : s[i + k] = 42 := by
              have := l2 k hk
              rw [hix, List.getElem?_eq_getElem hik] at this
              simpa using this
            simp +contextual -implicitDefEqProofs [ei, fe, hwk, hik, hik', ht, h0, h42k, hw]
            rw [hJ]
            exact ⟨by simp [fe], rfl, rfl⟩
          · intro env n' h' ei hj
            rw [hJ] at hj
            obtain ⟨fe, rfl, rfl⟩ := hj
            simp only [FE_cons, FE_nil, and_true] at fe
            have hwk : IntKind.i64.wrap ((i : Int) + lead t) = ((i : Int) + lead t) := wrap_in (by omega) (by omega)
            have h0 : (0 : Int) ≤ (i : Int) + lead t := by omega
            have ht : ((i : Int) + lead t).toNat = i + lead t := by omega
            have hc : (decide ((i : Int) + lead t < s.length) && decide (((s[i + lead t]?.getD 0).toNat : Int) = 42)) = false := by
              by_cases q : lead t < t.length
              · have hik : i + lead t < s.length := by omega
                have := l3 q
                rw [hix] at this
                have : ¬ (((s[i + lead t]?.getD 0).toNat : Int) = 42) := fun q => this (UInt8.toNat_inj.1 (by simp; omega))
                simp [this]
              · have : ¬ (i : Int) + lead t < s.length := by omega
                simp [this]
            have hw2 : IntKind.i64.wrap (2 + (lead t : Int)) = 2 + (lead t : Int) := wrap_in (by omega) (by omega)
            simp +contextual -implicitDefEqProofs [ei, fe, hwk, h0, ht, hc]
            refine Ck_mk ?_ ?_ <;> intro hq5
            · have : lead t > 2 := by simp at hq5; omega
              rw [if_pos this] at hst
              simp +contextual -implicitDefEqProofs
              rw [snap_tup (by intro y hy; simp at hy; rcases hy with rfl | rfl <;> simp), fail hst]
              simp
            · have : ¬ lead t > 2 := by simp at hq5; omega
              rw [if_neg this] at hst
              have hle2 : lead t = 1 ∨ lead t = 2 := by omega
              rcases hle2 with h1l | h2l
              · rw [h1l] at hst
                simp only [show ¬ (1 : Nat) = 2 by decide, if_false] at hst
                obtain ⟨v', ws, e, o'⟩ := grow .star n' h' (Nat.le_refl _) fun j hj => rfl
                simp only [encE] at e o'
                have h1i : ((lead t : Nat) : Int) = 1 := by omega
                simp +contextual -implicitDefEqProofs [ei, fe, fillA, fillE, h1i, hw1, e]
                exact ⟨s.length - (i + 1), by omega, i + 1, ds ++ [.star], v', rfl, by omega, by simp; omega, back _ _ hst, by simp [fe], by simp, by simp, o'⟩
              · rw [h2l] at hst
                simp only [if_true] at hst
                obtain ⟨v', ws, e, o'⟩ := grow .dstar n' h' (Nat.le_refl _) fun j hj => rfl
                simp only [encE] at e o'
                have h2i : ((lead t : Nat) : Int) = 2 := by omega
                have hwi : IntKind.i64.wrap ((i : Int) + 2) = (i : Int) + 2 := wrap_in (by omega) (by omega)
                simp +contextual -implicitDefEqProofs [ei, fe, fillA, fillE, h2i, hwi, e]
                exact ⟨s.length - (i + 2), by omega, i + 2, ds ++ [.dstar], v', rfl, by omega, by simp; omega, back _ _ hst, by simp [fe], by simp, by simp, o'⟩
        · have h42 : ¬ (s[i] == 42) = true := by simp at hq3; simp; intro q; rw [q] at hq3; simp at hq3
          rw [if_neg h42] at hst
          simp +contextual -implicitDefEqProofs [g0, g4, g5, hi]
          refine Ck_mk ?_ ?_ <;> intro hq4
          · have h63 : s[i] = 63 := UInt8.toNat_inj.1 (by simp at hq4; simp; omega)
            rw [h63] at hst
            simp only [beq_self_eq_true, if_true] at hst
            obtain ⟨v', ws, e, o'⟩ := grow .q n h (Nat.le_refl _) fun j hj => rfl
            simp only [encE] at e o'
            simp +contextual -implicitDefEqProofs [g0, g4, g5, fillA, fillE, e, hw1]
            exact ⟨s.length - (i + 1), by omega, i + 1, ds ++ [.q], v', rfl, by omega, by simp; omega, back _ _ hst, by simp [g0], by simp, by simp, o'⟩
          · have h63 : ¬ (s[i] == 63) = true := by simp at hq4; simp; intro q; rw [q] at hq4; simp at hq4
            rw [if_neg h63] at hst
            obtain ⟨v', ws, e, o'⟩ := grow (.ch s[i]) n h (Nat.le_refl _) fun j hj => rfl
            simp only [encE] at e o'
            simp +contextual -implicitDefEqProofs [g0, g4, g5, hi, fillA, fillE, e, hw1]
            exact ⟨s.length - (i + 1), by omega, i + 1, ds ++ [.ch s[i]], v', rfl, by omega, by simp; omega, back _ _ hst, by simp [g0], by simp, by simp, o'⟩
  · have hi : i = s.length := by have : ¬ i < s.length := by simpa using hlt
                                 omega
    subst hi
    obtain ⟨ids, q⟩ := hO.snap (encE_fix ds) 9
    simp +contextual -implicitDefEqProofs [g4]
    rw [snap_tupE]
    simp only [snapLf, q, (Fix1.bool true).snap h 10]
    rw [← hv, elemsV, h3]
    simp [parseS_nil]
theorem parseS_bad : ∀ (k : Nat) (s : List UInt8), s.length ≤ k → s.all prB = false → parseS s = none := by
  intro k
  induction k with
  | zero => intro s hk h; have : s = [] := List.length_eq_zero_iff.1 (by omega); subst this; simp at h
  | succ k ih =>
    intro s hk h
    have hne : s ≠ [] := by intro q; subst q; simp at h
    cases hs : elStep s with
    | none => exact parseS_none hne hs
    | some p =>
      obtain ⟨x, n⟩ := p
      obtain ⟨h1, h2⟩ := elStep_le hne hs
      rw [parseS_some hne hs]
      have key : (s.drop n).all prB = false := by
        -- what the step takes is right
        have ht : (s.take n).all prB = true := by
          obtain ⟨a, r, rfl⟩ := List.exists_cons_of_ne_nil hne
          unfold elStep at hs
          split at hs
          · cases hs
          · rename_i hb
            have hpa : prB a = true := by simp at hb; exact hb.1.1
            split at hs
            · rename_i hp
              simp only [Option.some.injEq, Prod.mk.injEq] at hs
              obtain ⟨-, rfl⟩ := hs
              obtain ⟨q, hq⟩ := List.isPrefixOf_iff_prefix.1 hp
              rw [← hq]; simp [prB]
            · split at hs
              · simp only [Option.some.injEq, Prod.mk.injEq] at hs; obtain ⟨-, rfl⟩ := hs; simp [hpa]
              · split at hs
                · simp only [Option.some.injEq, Prod.mk.injEq] at hs; obtain ⟨-, rfl⟩ := hs; simp [hpa]
                · split at hs
                  · unfold setAtS at hs
                    split at hs
                    · cases hs
                    · rename_i hneg
                      split at hs
                      · rename_i hok
                        simp only [Option.some.injEq, Prod.mk.injEq] at hs
                        obtain ⟨-, rfl⟩ := hs
                        obtain ⟨k1, k2, -⟩ := (indexByte_spec 93 (a :: r)).2 (Lib.indexByte (a :: r) 93).toNat (by omega)
                        generalize (Lib.indexByte (a :: r) 93).toNat = m at *
                        rw [List.take_succ_eq_append_getElem k1, List.all_append, k2]
                        have : ((a :: r).take m).all prB = true := by
                          cases m with
                          | zero => simp
                          | succ m =>
                            rw [Bool.and_eq_true] at hok
                            simpa [hpa] using hok.2
                        rw [this]; rfl
                      · cases hs
                  · simp only [Option.some.injEq, Prod.mk.injEq] at hs; obtain ⟨-, rfl⟩ := hs; simp [hpa]
        have := h
        rw [← List.take_append_drop n s, List.all_append, ht] at this
        simpa using this
      rw [ih (s.drop n) (by simp; omega) key]; rfl
theorem w_ref02_Right {C : Ctx} (hE : C.TP i_ref02_elems = some G_ref02_elems) (s : List UInt8) : FnW C c_ref02_Right r_ref02_Right [.str s] (.int .i64 (globErr s)) := by
  unfold FnW c_ref02_Right r_ref02_Right
  generalize hv : AV.int .i64 (globErr s) = v
  simp +contextual -implicitDefEqProofs
  refine Ck_mk ?_ ?_ <;> intro hq
  · have : s.length > 60 := by simp at hq; omega
    simp +contextual -implicitDefEqProofs
    rw [← hv, globErr, if_pos this]
  · have h60 : ¬ s.length > 60 := by simp at hq; omega
    have h6 : s.length ≤ 1000000 := by omega
    simp +contextual -implicitDefEqProofs
    obtain ⟨J, hJ⟩ : ∃ J : Nat → Env → Nat → Hp → Prop, J = Scan [(0, .str s)] [] fun j => ∀ hj : j < s.length, prB s[j] = true := ⟨_, rfl⟩
    refine Wk_scan s.length 3 0 J (by omega) (Nat.zero_le _) (by simp) (hJ ▸ ⟨by simp, by simp, Upto.zero⟩) ?_ ?_
    · intro i env n h _ hi hw ei hj
      rw [hJ] at hj
      obtain ⟨fe, -, hp⟩ := hj
      simp only [FE_cons, FE_nil, and_true] at fe
      simp +contextual -implicitDefEqProofs [ei, fe, hi, hw]
      refine Ck_mk ?_ ?_ <;> intro hc
      · simp +contextual -implicitDefEqProofs
        rw [← hv, globErr, if_neg h60, parseS_bad s.length s (Nat.le_refl _) (all_at hi (by simp only [prB]; grind))]; rfl
      · simp +contextual -implicitDefEqProofs [ei, fe, hw]
        rw [hJ]
        exact ⟨by simp [fe], by simp, hp.succ fun _ => by simp only [prB]; grind⟩
    · intro env n h ei hj
      rw [hJ] at hj
      obtain ⟨fe, -, hp⟩ := hj
      simp only [FE_cons, FE_nil, and_true] at fe
      have hG : G_ref02_elems [.str s] = some (elemsV s) := by rw [G_ref02_elems, if_pos ⟨h6, all_none fun j hj => hp j hj hj⟩]
      simp +contextual -implicitDefEqProofs [ei, fe, callA_fix hE, hG]
      cases hps : parseS s with
      | none =>
        simp +contextual -implicitDefEqProofs [elemsV, hps]
        rw [← hv, globErr, if_neg h60, hps]; rfl
      | some l =>
        simp +contextual -implicitDefEqProofs [elemsV, hps]
        rw [← hv, globErr, if_neg h60, hps]; rfl
end Go.Pv.T
namespace Go.Pv.T
open Go Go.Pv
set_option linter.unusedSimpArgs false
set_option linter.unusedVariables false

/-! ### what is asked of groups -/
def dupB {α : Type} [BEq α] (l : List α) : Bool := (List.range l.length).any fun k => match l[k]? with
  | some x => (l.take k).contains x
  | none => false
theorem dupB_at {α : Type} [BEq α] {l : List α} {k : Nat} (hk : k < l.length) (h : (l.take k).contains l[k] = true) : dupB l = true := by
  unfold dupB
  rw [List.any_eq_true]
  exact ⟨k, List.mem_range.2 hk, by simp [List.getElem?_eq_getElem hk, h]⟩
theorem dupB_no {α : Type} [BEq α] {l : List α} (h : ∀ k (hk : k < l.length), (l.take k).contains l[k] = false) : dupB l = false := by
  unfold dupB
  rw [List.any_eq_false]
  intro k hk
  have hk := List.mem_range.1 hk
  simp [List.getElem?_eq_getElem hk, h k hk]
def uB (u : Int) : Bool := decide (u < 1) || decide (9999 < u)
def memErr (l : List Group) (g : Group) : Int :=
  if g.users.length + g.groups.length > 16 then 4 else if g.users.any uB then 2 else if dupB g.users then 7 else if dupB g.groups then 7 else
  if g.groups.any (fun n => !(l.any fun x => x.name == n)) then 8 else 0
def oneErr (l : List Group) (i : Nat) (g : Group) : Int :=
  if !simpB g.name then 3 else if (l.take i).any (fun x => x.name == g.name) then 7 else memErr l g
def G_members : List AV → Option AV
  | [x, .agg c] => match dGroups x, dGroup c with
    | some l, some g => if l.length ≤ LI then some (.int .i64 (memErr l g)) else none
    | _, _ => none
  | _ => none
theorem any_ix (l : List Group) (nm : List UInt8) : decide (ixOf (fun g => g.name == nm) l < 0) = !(l.any fun x => x.name == nm) := by
  have := ixOf_any (p := fun g : Group => g.name == nm) (l := l)
  rw [← this]
  by_cases h : 0 ≤ ixOf (fun g : Group => g.name == nm) l
  · have h2 : ¬ ixOf (fun g : Group => g.name == nm) l < 0 := by omega
    simp only [h, h2, decide_true, decide_false, Bool.not_true]
  · have h2 : ixOf (fun g : Group => g.name == nm) l < 0 := by omega
    simp only [h, h2, decide_true, decide_false, Bool.not_false]
set_option maxHeartbeats 4000000 in
theorem w_ref43_members {C : Ctx} (hI : C.TP i_ref05_In = some (inG dInts aInt)) (hT : C.TP i_ref43_inText = some (inG dStrs aStr)) (hA : C.TP i_ref43_at = some G_at) {x : AV} {l : List Group} {c : List AV} {g : Group}
    (hx : dGroups x = some l) (hl : l.length ≤ LI) (hc : dGroup c = some g) : FnW C c_ref43_members r_ref43_members [x, .agg c] (.int .i64 (memErr l g)) := by
  unfold FnW c_ref43_members r_ref43_members
  obtain ⟨u, gs, rfl, a1, a2, a3, a4⟩ := dGroup_inv hc
  generalize hv : AV.int .i64 (memErr l g) = v
  have hwrap : (decide ((16 : Int) < g.users.length) || decide ((16 : Int) < g.groups.length) || decide ((16 : Int) < IntKind.i64.wrap ((g.users.length : Int) + g.groups.length))) = decide (g.users.length + g.groups.length > 16) := by
    by_cases h1 : g.users.length ≤ 16 ∧ g.groups.length ≤ 16
    · rw [wrap_in (by omega) (by omega)]
      rw [Bool.eq_iff_iff]; simp; omega
    · rw [Bool.eq_iff_iff]
      simp
      constructor
      · intro _; omega
      · intro _; left; omega
  simp +contextual -implicitDefEqProofs [boxA, dSl_one a1, dSl_one a2, dSl_len a1, dSl_len a2]
  refine Ck_mk ?_ ?_ <;> intro hq
  · have : g.users.length + g.groups.length > 16 := by rw [hwrap] at hq; simpa using hq
    simp +contextual -implicitDefEqProofs
    rw [← hv, memErr, if_pos this]
  · have h16 : ¬ g.users.length + g.groups.length > 16 := by rw [hwrap] at hq; simpa using hq
    clear hwrap
    simp +contextual -implicitDefEqProofs
    obtain ⟨J, hJ⟩ : ∃ J : Nat → Env → Nat → Hp → Prop, J = Scan [(0, x), (3, .ptr 0 0 0)] [(0, .row [[.str g.name, u, gs]] false)] fun j => ∀ hj : j < g.users.length, uB g.users[j] = false := ⟨_, rfl⟩
    refine Wk_scan g.users.length 5 0 J a3 (Nat.zero_le _) (by simp) (hJ ▸ ⟨by simp, by simp, Upto.zero⟩) ?_ ?_
    · intro i env n h _ hi hw ei hj
      rw [hJ] at hj
      obtain ⟨fe, fh, hp⟩ := hj
      simp only [FE_cons, FE_nil, FH_cons, FH_nil, and_true] at fe fh
      obtain ⟨ca, h1, h2⟩ := dSl_at a1 hi
      obtain rfl := dInt_inv h2
      simp +contextual -implicitDefEqProofs [ei, fe, fh, dSl_len a1, hi, h1, hw]
      refine Ck_mk ?_ ?_ <;> intro hc'
      · have : g.users.any uB = true := any_at hi hc'
        simp +contextual -implicitDefEqProofs
        rw [← hv, memErr, if_neg h16, if_pos this]
      · simp +contextual -implicitDefEqProofs [ei, fe, fh, hw]
        rw [hJ]
        exact ⟨by simp [fe], by simp [fh], hp.succ fun _ => hc'⟩
    · intro env n h ei hj
      rw [hJ] at hj
      obtain ⟨fe, fh, hp⟩ := hj
      simp only [FE_cons, FE_nil, FH_cons, FH_nil, and_true] at fe fh
      have hz1 : ¬ g.users.any uB = true := by rw [any_none fun j hj => hp j hj hj]; simp
      simp +contextual -implicitDefEqProofs [ei, fe, fh, dSl_len a1]
      clear hp hJ
      obtain ⟨J, hJ⟩ : ∃ J : Nat → Env → Nat → Hp → Prop, J = Scan [(0, x), (3, .ptr 0 0 0)] [(0, .row [[.str g.name, u, gs]] false)] fun j => ∀ hj : j < g.users.length, (g.users.take j).contains g.users[j] = false := ⟨_, rfl⟩
      refine Wk_scan g.users.length 6 0 J a3 (Nat.zero_le _) (by simp) (hJ ▸ ⟨by simp [fe], by simp [fh], Upto.zero⟩) ?_ ?_
      · intro i env n h _ hi hw ei hj
        rw [hJ] at hj
        obtain ⟨fe, fh, hp⟩ := hj
        simp only [FE_cons, FE_nil, FH_cons, FH_nil, and_true] at fe fh
        obtain ⟨ca, h1, h2⟩ := dSl_at a1 hi
        obtain rfl := dInt_inv h2
        obtain ⟨y, hy1, hy2⟩ := dSl_slice_hi a1 (Nat.le_of_lt hi)
        have hG : inG dInts aInt [y, .int .i64 g.users[i]] = some (.bool ((g.users.take i).contains g.users[i])) := by
          simp only [inG, hy2, aInt]; rw [if_pos (by simp only [List.length_take]; omega)]
        simp +contextual -implicitDefEqProofs [ei, fe, fh, dSl_len a1, hi, h1, hy1, hw, callA_fix hI, dSl_fix hy2, hG]
        refine Ck_mk ?_ ?_ <;> intro hc'
        · simp +contextual -implicitDefEqProofs
          rw [← hv, memErr, if_neg h16, if_neg hz1, if_pos (dupB_at hi (by simpa using hc'))]
        · simp +contextual -implicitDefEqProofs [ei, fe, fh, hw]
          rw [hJ]
          exact ⟨by simp [fe], by simp [fh], hp.succ fun _ => by simpa using hc'⟩
      · intro env n h ei hj
        rw [hJ] at hj
        obtain ⟨fe, fh, hp⟩ := hj
        simp only [FE_cons, FE_nil, FH_cons, FH_nil, and_true] at fe fh
        have hz2 : ¬ dupB g.users = true := by rw [dupB_no fun j hj => hp j hj hj]; simp
        simp +contextual -implicitDefEqProofs [ei, fe, fh, dSl_len a1, dSl_len a2]
        clear hp hJ
        obtain ⟨J, hJ⟩ : ∃ J : Nat → Env → Nat → Hp → Prop, J = Scan [(0, x), (3, .ptr 0 0 0)] [(0, .row [[.str g.name, u, gs]] false)] fun j => ∀ hj : j < g.groups.length, (g.groups.take j).contains g.groups[j] = false := ⟨_, rfl⟩
        refine Wk_scan g.groups.length 7 0 J a4 (Nat.zero_le _) (by simp) (hJ ▸ ⟨by simp [fe], by simp [fh], Upto.zero⟩) ?_ ?_
        · intro i env n h _ hi hw ei hj
          rw [hJ] at hj
          obtain ⟨fe, fh, hp⟩ := hj
          simp only [FE_cons, FE_nil, FH_cons, FH_nil, and_true] at fe fh
          obtain ⟨ca, h1, h2⟩ := dSl_at a2 hi
          obtain rfl := dStr_inv h2
          obtain ⟨y, hy1, hy2⟩ := dSl_slice_hi a2 (Nat.le_of_lt hi)
          have hG : inG dStrs aStr [y, .str g.groups[i]] = some (.bool ((g.groups.take i).contains g.groups[i])) := by
            simp only [inG, hy2, aStr]; rw [if_pos (by simp only [List.length_take]; omega)]
          simp +contextual -implicitDefEqProofs [ei, fe, fh, dSl_len a2, hi, h1, hy1, hw, callA_fix hT, dSl_fix hy2, hG]
          refine Ck_mk ?_ ?_ <;> intro hc'
          · simp +contextual -implicitDefEqProofs
            rw [← hv, memErr, if_neg h16, if_neg hz1, if_neg hz2, if_pos (dupB_at hi (by simpa using hc'))]
          · simp +contextual -implicitDefEqProofs [ei, fe, fh, hw]
            rw [hJ]
            exact ⟨by simp [fe], by simp [fh], hp.succ fun _ => by simpa using hc'⟩
        · intro env n h ei hj
          rw [hJ] at hj
          obtain ⟨fe, fh, hp⟩ := hj
          simp only [FE_cons, FE_nil, FH_cons, FH_nil, and_true] at fe fh
          have hz3 : ¬ dupB g.groups = true := by rw [dupB_no fun j hj => hp j hj hj]; simp
          simp +contextual -implicitDefEqProofs [ei, fe, fh, dSl_len a2]
          clear hp hJ
          obtain ⟨J, hJ⟩ : ∃ J : Nat → Env → Nat → Hp → Prop, J = Scan [(0, x), (3, .ptr 0 0 0)] [(0, .row [[.str g.name, u, gs]] false)] fun j => ∀ hj : j < g.groups.length, (!(l.any fun x => x.name == g.groups[j])) = false := ⟨_, rfl⟩
          refine Wk_scan g.groups.length 8 0 J a4 (Nat.zero_le _) (by simp) (hJ ▸ ⟨by simp [fe], by simp [fh], Upto.zero⟩) ?_ ?_
          · intro i env n h _ hi hw ei hj
            rw [hJ] at hj
            obtain ⟨fe, fh, hp⟩ := hj
            simp only [FE_cons, FE_nil, FH_cons, FH_nil, and_true] at fe fh
            obtain ⟨ca, h1, h2⟩ := dSl_at a2 hi
            obtain rfl := dStr_inv h2
            have hG : G_at [x, .str g.groups[i]] = some (.int .i64 (ixOf (fun y => y.name == g.groups[i]) l)) := by simp only [G_at, hx]; rw [if_pos hl]
            simp +contextual -implicitDefEqProofs [ei, fe, fh, dSl_len a2, hi, h1, hw, callA_fix hA, dSl_fix hx, hG]
            refine Ck_mk ?_ ?_ <;> intro hc'
            · simp +contextual -implicitDefEqProofs
              rw [any_ix] at hc'
              rw [← hv, memErr, if_neg h16, if_neg hz1, if_neg hz2, if_neg hz3, if_pos (any_at (p := fun n => !(l.any fun x => x.name == n)) hi hc')]
            · simp +contextual -implicitDefEqProofs [ei, fe, fh, hw]
              rw [any_ix] at hc'
              rw [hJ]
              exact ⟨by simp [fe], by simp [fh], hp.succ fun _ => hc'⟩
          · intro env n h ei hj
            rw [hJ] at hj
            obtain ⟨fe, fh, hp⟩ := hj
            simp only [FE_cons, FE_nil, FH_cons, FH_nil, and_true] at fe fh
            have hz4 : ¬ (g.groups.any (fun n => !(l.any fun x => x.name == n))) = true := by rw [any_none fun j hj => hp j hj hj]; simp
            simp +contextual -implicitDefEqProofs [ei, fe, fh, dSl_len a2]
            rw [← hv, memErr, if_neg h16, if_neg hz1, if_neg hz2, if_neg hz3, if_neg hz4]
end Go.Pv.T
namespace Go.Pv.T
open Go Go.Pv
set_option linter.unusedSimpArgs false
set_option linter.unusedVariables false

theorem fnd_any (l : List Group) (nm : List UInt8) : (fnd l nm).isSome = l.any fun x => x.name == nm := by
  unfold fnd
  rw [Bool.eq_iff_iff, List.any_eq_true, List.find?_isSome]
def G_one : List AV → Option AV
  | [x, .int .i64 i] => match dGroups x with
    | some l => match l[i.toNat]? with
      | some g => if l.length ≤ LI ∧ 0 ≤ i then some (.int .i64 (oneErr l i.toNat g)) else none
      | none => none
    | none => none
  | _ => none
theorem simpB_not (s : List UInt8) : (!vpB s || decide (47 ∈ s)) = !simpB s := by
  unfold simpB
  rw [List.contains_eq_mem]
  cases vpB s <;> cases decide (47 ∈ s) <;> rfl
set_option maxHeartbeats 8000000 in
theorem w_group_one {C : Ctx} (hV : C.TP i_glob_ValidPath = some G_vp) (hK : C.TP i_strings_Contains = some G_Contains1) (hF : C.TP i_group_find = some G_find) (hI : C.TP i_slices_Contains_Lint_int = some (inG dInts aInt)) (hT : C.TP i_slices_Contains_Lstring_string = some (inG dStrs aStr))
    {x : AV} {l : List Group} {i : Nat} (hx : dGroups x = some l) (hl : l.length ≤ LI) (hil : i < l.length) : FnW C c_group_one r_group_one [x, .int .i64 i] (.int .i64 (oneErr l i l[i])) := by
  unfold FnW c_group_one r_group_one
  obtain ⟨c, h1, hc⟩ := dSl_at hx hil
  obtain ⟨u, gs, rfl, a1, a2, a3, a4⟩ := dGroup_inv hc
  obtain ⟨y, hy1, hy2⟩ := dSl_slice_hi hx (Nat.le_of_lt hil)
  have hyl : (l.take i).length ≤ LI := by simp only [List.length_take]; omega
  obtain ⟨fc, hf1, hf2⟩ := G_find_of hy2 hyl l[i].name
  rw [fnd_any] at hf1
  generalize hg : l[i] = g at *
  generalize hv : AV.int .i64 (oneErr l i g) = v
  have hsb := simpB_not g.name
  simp +contextual -implicitDefEqProofs [h1, dSl_one a1, dSl_one a2, callA_fix hV, callA_fix hK, G_vp, G_Contains1]
  refine Ck_mk ?_ ?_ <;> intro hq
  · rw [hsb] at hq
    simp +contextual -implicitDefEqProofs
    rw [← hv, oneErr, if_pos hq]
  · rw [hsb] at hq
    have hz0 : ¬ (!simpB g.name) = true := by rw [hq]; simp
    clear hsb hq
    generalize hay : ((l.take i).any fun x => x.name == g.name) = ay at hf1
    have hfc := dGroup_ones hf2
    have hfl := dGroup_len hf2
    simp +contextual -implicitDefEqProofs [h1, hy1, callA_fix hF, dSl_fix hy2, hf1, hfc, hfl, confL, pairsL, indL, rdI_callF hF, Nat.testBit]
    refine Ck_mk ?_ ?_ <;> intro hq2
    · simp +contextual -implicitDefEqProofs
      rw [← hv, oneErr, if_neg hz0, hay, if_pos hq2]
    · have hov : oneErr l i g = memErr l g := by rw [oneErr, if_neg hz0, hay, if_neg (by rw [hq2]; simp)]
      rw [hov] at hv
      have hwrap : decide ((16 : Int) < IntKind.i64.wrap ((g.users.length : Int) + g.groups.length)) = decide (g.users.length + g.groups.length > 16) := by
        rw [Bool.eq_iff_iff]
        have b3 : g.users.length ≤ 2305843009213693951 := a3
        have b4 : g.groups.length ≤ 2305843009213693951 := a4
        rw [wrap_in (by omega) (by omega)]; simp; omega
      simp +contextual -implicitDefEqProofs [dSl_len a1, dSl_len a2, hwrap]
      refine Ck_mk ?_ ?_ <;> intro hq3
      · simp +contextual -implicitDefEqProofs
        rw [← hv, memErr, if_pos (by simpa using hq3)]
      · have h16 : ¬ g.users.length + g.groups.length > 16 := by simpa using hq3
        clear hwrap
        simp +contextual -implicitDefEqProofs [dSl_len a1]
        obtain ⟨J, hJ⟩ : ∃ J : Nat → Env → Nat → Hp → Prop, J = Scan [(0, x), (5, .ptr 0 0 0), (50, u), (51, .int .i64 g.users.length)] [(0, .row [[.str g.name, u, gs]] false)] fun j => ∀ hj : j < g.users.length, uB g.users[j] = false := ⟨_, rfl⟩
        refine Wk_scan g.users.length 52 0 J a3 (Nat.zero_le _) (by simp) (hJ ▸ ⟨by simp , by simp , Upto.zero⟩) ?_ ?_
        · intro i' env n h _ hi hw ei hj
          rw [hJ] at hj
          obtain ⟨fe, fh, hp⟩ := hj
          simp only [FE_cons, FE_nil, FH_cons, FH_nil, and_true] at fe fh
          obtain ⟨ca, h1, h2⟩ := dSl_at a1 hi
          obtain rfl := dInt_inv h2
          simp +contextual -implicitDefEqProofs [ei, fe, fh, hi, hw, h1]
          refine Ck_mk ?_ ?_ <;> intro hc'
          · simp +contextual -implicitDefEqProofs
            rw [← hv, memErr, if_neg h16, if_pos (any_at hi hc')]
          · simp +contextual -implicitDefEqProofs [ei, fe, fh, hw]
            rw [hJ]
            exact ⟨by simp [fe], by simp [fh], hp.succ fun _ => hc'⟩
        · intro env n h ei hj
          rw [hJ] at hj
          obtain ⟨fe, fh, hp⟩ := hj
          simp only [FE_cons, FE_nil, FH_cons, FH_nil, and_true] at fe fh
          have hz1 : ¬ g.users.any uB = true := by rw [any_none fun j hj => hp j hj hj]; simp
          simp +contextual -implicitDefEqProofs [ei, fe, fh, dSl_len a1]
          clear hp hJ
          obtain ⟨J, hJ⟩ : ∃ J : Nat → Env → Nat → Hp → Prop, J = Scan [(0, x), (5, .ptr 0 0 0), (64, u), (65, .int .i64 g.users.length)] [(0, .row [[.str g.name, u, gs]] false)] fun j => ∀ hj : j < g.users.length, (g.users.take j).contains g.users[j] = false := ⟨_, rfl⟩
          refine Wk_scan g.users.length 66 0 J a3 (Nat.zero_le _) (by simp) (hJ ▸ ⟨by simp [fe, fh], by simp [fe, fh], Upto.zero⟩) ?_ ?_
          · intro i' env n h _ hi hw ei hj
            rw [hJ] at hj
            obtain ⟨fe, fh, hp⟩ := hj
            simp only [FE_cons, FE_nil, FH_cons, FH_nil, and_true] at fe fh
            obtain ⟨ca, h1, h2⟩ := dSl_at a1 hi
            obtain rfl := dInt_inv h2
            obtain ⟨y, hy1, hy2⟩ := dSl_slice_hi a1 (Nat.le_of_lt hi)
            have hG : inG dInts aInt [y, .int .i64 g.users[i']] = some (.bool ((g.users.take i').contains g.users[i'])) := by
              simp only [inG, hy2, aInt]; rw [if_pos (by simp only [List.length_take]; omega)]
            simp +contextual -implicitDefEqProofs [ei, fe, fh, hi, hw, h1, hy1, callA_fix hI, dSl_fix hy2, hG]
            refine Ck_mk ?_ ?_ <;> intro hc'
            · simp +contextual -implicitDefEqProofs
              rw [← hv, memErr, if_neg h16, if_neg hz1, if_pos (dupB_at hi (by simpa using hc'))]
            · simp +contextual -implicitDefEqProofs [ei, fe, fh, hw]
              rw [hJ]
              exact ⟨by simp [fe], by simp [fh], hp.succ fun _ => by simpa using hc'⟩
          · intro env n h ei hj
            rw [hJ] at hj
            obtain ⟨fe, fh, hp⟩ := hj
            simp only [FE_cons, FE_nil, FH_cons, FH_nil, and_true] at fe fh
            have hz2 : ¬ dupB g.users = true := by rw [dupB_no fun j hj => hp j hj hj]; simp
            simp +contextual -implicitDefEqProofs [ei, fe, fh, dSl_len a2]
            clear hp hJ
            obtain ⟨J, hJ⟩ : ∃ J : Nat → Env → Nat → Hp → Prop, J = Scan [(0, x), (5, .ptr 0 0 0), (79, gs), (80, .int .i64 g.groups.length)] [(0, .row [[.str g.name, u, gs]] false)] fun j => ∀ hj : j < g.groups.length, (g.groups.take j).contains g.groups[j] = false := ⟨_, rfl⟩
            refine Wk_scan g.groups.length 81 0 J a4 (Nat.zero_le _) (by simp) (hJ ▸ ⟨by simp [fe, fh], by simp [fe, fh], Upto.zero⟩) ?_ ?_
            · intro i' env n h _ hi hw ei hj
              rw [hJ] at hj
              obtain ⟨fe, fh, hp⟩ := hj
              simp only [FE_cons, FE_nil, FH_cons, FH_nil, and_true] at fe fh
              obtain ⟨ca, h1, h2⟩ := dSl_at a2 hi
              obtain rfl := dStr_inv h2
              obtain ⟨y, hy1, hy2⟩ := dSl_slice_hi a2 (Nat.le_of_lt hi)
              have hG : inG dStrs aStr [y, .str g.groups[i']] = some (.bool ((g.groups.take i').contains g.groups[i'])) := by
                simp only [inG, hy2, aStr]; rw [if_pos (by simp only [List.length_take]; omega)]
              simp +contextual -implicitDefEqProofs [ei, fe, fh, hi, hw, h1, hy1, callA_fix hT, dSl_fix hy2, hG]
              refine Ck_mk ?_ ?_ <;> intro hc'
              · simp +contextual -implicitDefEqProofs
                rw [← hv, memErr, if_neg h16, if_neg hz1, if_neg hz2, if_pos (dupB_at hi (by simpa using hc'))]
              · simp +contextual -implicitDefEqProofs [ei, fe, fh, hw]
                rw [hJ]
                exact ⟨by simp [fe], by simp [fh], hp.succ fun _ => by simpa using hc'⟩
            · intro env n h ei hj
              rw [hJ] at hj
              obtain ⟨fe, fh, hp⟩ := hj
              simp only [FE_cons, FE_nil, FH_cons, FH_nil, and_true] at fe fh
              have hz3 : ¬ dupB g.groups = true := by rw [dupB_no fun j hj => hp j hj hj]; simp
              simp +contextual -implicitDefEqProofs [ei, fe, fh, dSl_len a2]
              clear hp hJ
              obtain ⟨J, hJ⟩ : ∃ J : Nat → Env → Nat → Hp → Prop, J = Scan [(0, x), (94, gs), (95, .int .i64 g.groups.length)] [(0, .row [[.str g.name, u, gs]] false)] fun j => ∀ hj : j < g.groups.length, (!(l.any fun x => x.name == g.groups[j])) = false := ⟨_, rfl⟩
              refine Wk_scan g.groups.length 96 0 J a4 (Nat.zero_le _) (by simp) (hJ ▸ ⟨by simp [fe, fh], by simp [fe, fh], Upto.zero⟩) ?_ ?_
              · intro i' env n h _ hi hw ei hj
                rw [hJ] at hj
                obtain ⟨fe, fh, hp⟩ := hj
                simp only [FE_cons, FE_nil, FH_cons, FH_nil, and_true] at fe fh
                obtain ⟨ca, h1, h2⟩ := dSl_at a2 hi
                obtain rfl := dStr_inv h2
                obtain ⟨fc, hf1, hf2⟩ := G_find_of hx hl g.groups[i']
                rw [fnd_any] at hf1
                have hfc := dGroup_ones hf2
                have hfl := dGroup_len hf2
                have hn0 : ¬ 0 = n := by omega
                simp +contextual -implicitDefEqProofs [ei, fe, fh, hi, hw, h1, callA_fix hF, dSl_fix hx, hf1, hfc, hfl]
                refine Ck_mk ?_ ?_ <;> intro hc'
                · simp +contextual -implicitDefEqProofs
                  rw [← hv, memErr, if_neg h16, if_neg hz1, if_neg hz2, if_neg hz3, if_pos (any_at (p := fun n => !(l.any fun x => x.name == n)) hi hc')]
                · simp +contextual -implicitDefEqProofs [ei, fe, fh, hw]
                  rw [hJ]
                  exact ⟨by simp [fe], by simp [fh, hn0], hp.succ fun _ => hc'⟩
              · intro env n h ei hj
                rw [hJ] at hj
                obtain ⟨fe, fh, hp⟩ := hj
                simp only [FE_cons, FE_nil, FH_cons, FH_nil, and_true] at fe fh
                have hz4 : ¬ (g.groups.any (fun n => !(l.any fun x => x.name == n))) = true := by rw [any_none fun j hj => hp j hj hj]; simp
                simp +contextual -implicitDefEqProofs [ei, fe, fh, dSl_len a2]
                rw [← hv, memErr, if_neg h16, if_neg hz1, if_neg hz2, if_neg hz3, if_neg hz4]
end Go.Pv.T
