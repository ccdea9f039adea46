/- A part of the proof that AccessRights returns true wherever its input is of bulk at most 1048576: what the functions that it reaches answer. No theorem of the claim stands here. -/
import Derived.Test.YtedapkgjicmhjaaGreatDoorSe
import Derived.Test.YtedapkgjicmhjaaGreatDoorPvShelf
namespace Go.Pv.T
open Go Go.Pv
set_option linter.unusedSimpArgs false
set_option linter.unusedVariables false

theorem nm44_eq (s : List UInt8) : (!(s.isEmpty) && !nm44B s) = repoB s := by
  unfold repoB nm44B
  cases s.contains 47 <;> cases vpB s <;> cases s <;> rfl
theorem vpB_LI (s : List UInt8) : True := trivial
def G_nm44' : List AV → Option AV
  | [.str s] => if s.length ≤ LI then some (.bool (nm44B s)) else none
  | _ => none
set_option maxHeartbeats 4000000 in
theorem w_ref44_Right {C : Ctx} (hG : C.TP i_ref43_Right = some G_groups) (hN : C.TP i_ref44_name = some G_nm44) (hR : C.TP i_ref02_Right = some G_glob_Right) {w : AV} {p : Policy} (hp : dPolicy w = some p) (hlen : ∀ r ∈ p.rules, r.repo.length ≤ LI) :
    FnW C c_ref44_Right r_ref44_Right [w] (.int .i64 (rightS p)) := by
  unfold FnW c_ref44_Right r_ref44_Right
  obtain ⟨x, y, rfl, hx, hy, hgl, hrl⟩ := dPolicy_inv hp
  generalize hv : AV.int .i64 (rightS p) = v
  have hGG : G_groups [x] = some (.int .i64 (groupsErr p.groups)) := by simp only [G_groups, hx]; rw [if_pos hgl]
  simp +contextual -implicitDefEqProofs [boxA, dSl_one hx, dSl_one hy, callA_fix hG, dSl_fix hx, hGG]
  refine Ck_mk ?_ ?_ <;> intro hq
  · simp +contextual -implicitDefEqProofs
    rw [← hv, rightS, if_pos (by simpa using hq)]
  · have hq' : ¬ groupsErr p.groups ≠ 0 := by simpa using hq
    simp +contextual -implicitDefEqProofs [dSl_len hy]
    refine Ck_mk ?_ ?_ <;> intro hq2
    · simp +contextual -implicitDefEqProofs
      rw [← hv, rightS, if_neg hq', if_pos (by simp at hq2; omega)]
    · have h24 : ¬ p.rules.length > 24 := by simp at hq2; omega
      have hfin : rightS p = firstNZ (ruleAt p.groups p.rules) p.rules.length := by rw [rightS, if_neg hq', if_neg h24]
      rw [hfin] at hv
      simp +contextual -implicitDefEqProofs
      obtain ⟨J, hJ⟩ : ∃ J : Nat → Env → Nat → Hp → Prop, J = Scan [(1, .ptr 0 0 0)] [(0, .row [[x, y]] false)] fun j => ruleAt p.groups p.rules j = 0 := ⟨_, rfl⟩
      refine Wk_scan p.rules.length 4 0 J hrl (Nat.zero_le _) (by simp) (hJ ▸ ⟨by simp, by simp, Upto.zero⟩) ?_ ?_
      · intro i env n h _ hi hw ei hj
        rw [hJ] at hj
        obtain ⟨fe, fh, hp'⟩ := hj
        simp only [FE_cons, FE_nil, FH_cons, FH_nil, and_true] at fe fh
        obtain ⟨fh0, fhn⟩ := fh
        obtain ⟨c, q1, q2⟩ := dSl_at hy hi
        obtain rfl := dRule_inv q2
        have hone : ruleErr p.groups p.rules[i] ≠ 0 → AV.int .i64 (ruleErr p.groups p.rules[i]) = v := fun hne => by
          rw [← ruleAt_get hi] at hne ⊢
          rw [← hv, firstNZ_at hp' hne hi]
        have hrb := nm44_eq p.rules[i].repo
        have hrl' := hlen p.rules[i] (List.getElem_mem hi)
        have hn0 : ¬ 0 = n := by omega
        have hnz : ¬ n = 0 := by omega
        simp +contextual -implicitDefEqProofs [ei, fe, fh0, dSl_len hy, hi, q1, hn0, hnz]
        obtain ⟨J', hJ'⟩ : ∃ J : Nat → Env → Nat → Hp → Prop, J = fun j env' n' h' => FE env' [(1, .ptr 0 0 0), (4, .int .i64 i), (5, .ptr n 0 0), (6, .bool ((p.groups.take j).any fun g => g.name == p.rules[i].group))] ∧ FH h' n' [(0, .row [[x, y]] false), (n, .row [[.bool p.rules[i].allow, .str p.rules[i].group, .str p.rules[i].repo, .str p.rules[i].glob]] false)] := ⟨_, rfl⟩
        refine Wk_scan p.groups.length 7 0 J' hgl (Nat.zero_le _) (by simp) (hJ' ▸ ⟨by simp [fe, ei], by simp [hn0, fh0]⟩) ?_ ?_
        · intro j env' n' h' _ hjl hw' ej hjj
          rw [hJ'] at hjj
          obtain ⟨fe', fh'⟩ := hjj
          simp only [FE_cons, FE_nil, FH_cons, FH_nil, and_true] at fe' fh'
          obtain ⟨cg, r1, r2⟩ := dSl_at hx hjl
          obtain ⟨u, gs, rfl, a1, a2, a3, a4⟩ := dGroup_inv r2
          simp +contextual -implicitDefEqProofs [ej, fe', fh', dSl_len hx, hjl, r1, hw']
          rw [hJ']
          refine ⟨?_, by simp [fh']⟩
          simp only [FE_cons, FE_nil, and_true]
          have : (p.groups.take (j + 1)).any (fun g => g.name == p.rules[i].group) = ((p.groups.take j).any (fun g => g.name == p.rules[i].group) || (p.groups[j].name == p.rules[i].group)) := by
            rw [List.take_succ_eq_append_getElem hjl, List.any_append, List.any_cons, List.any_nil, Bool.or_false]
          rw [this]
          simp [fe']
        · intro env' n' h' ej hjj
          rw [hJ'] at hjj
          obtain ⟨fe', fh'⟩ := hjj
          simp only [FE_cons, FE_nil, FH_cons, FH_nil, and_true, List.take_length] at fe' fh'
          unfold ruleErr at hone
          simp +contextual -implicitDefEqProofs [ej, fe', fh', dSl_len hx]
          refine Ck_mk ?_ ?_ <;> intro hc
          · simp +contextual -implicitDefEqProofs
            have hc' : (!(p.groups.any fun g => g.name == p.rules[i].group)) = true := by
              rw [Bool.not_eq_true', Bool.eq_false_iff]; intro q; simp at hc; rw [List.any_eq_true] at q; obtain ⟨g, hg, e⟩ := q; simp at e; exact hc g hg e
            rw [if_pos hc'] at hone
            exact hone (by decide)
          · have hc' : (!(p.groups.any fun g => g.name == p.rules[i].group)) = false := by
              rw [Bool.not_eq_false']
              simp at hc
              obtain ⟨g, hg, e⟩ := hc
              exact List.any_eq_true.2 ⟨g, hg, by simpa using e⟩
            rw [if_neg (by rw [hc']; simp)] at hone
            simp +contextual -implicitDefEqProofs [fe', fh', callA_fix hN, callA_fix hR, G_nm44, G_glob_Right, hrl']
            by_cases hrb2 : repoB p.rules[i].repo = true
            · rw [if_pos hrb2] at hone
              rw [hrb2] at hrb
              simp +contextual -implicitDefEqProofs [hrb]
              exact hone (by decide)
            · rw [if_neg hrb2] at hone
              rw [Bool.not_eq_true] at hrb2
              rw [hrb2] at hrb
              refine Ck_mk ?_ ?_ <;> intro hg
              · simp +contextual -implicitDefEqProofs
                rw [hrb, Bool.false_or] at hg
                rw [if_pos (by simpa using hg)] at hone
                exact hone (by decide)
              · simp +contextual -implicitDefEqProofs [fe', fh', hw]
                rw [hJ]
                refine ⟨by simp [fe'], by simp [fh'], hp'.succ ?_⟩
                rw [ruleAt_get hi, ruleErr, if_neg (by rw [hc']; simp), if_neg (by rw [hrb2]; simp), if_neg ?_]
                rw [hrb, Bool.false_or] at hg
                simpa using hg
      · intro env n h ei hj
        rw [hJ] at hj
        obtain ⟨fe, fh, hp'⟩ := hj
        simp only [FE_cons, FE_nil, FH_cons, FH_nil, and_true] at fe fh
        simp +contextual -implicitDefEqProofs [ei, fe, fh, dSl_len hy]
        rw [← hv, firstNZ_zero.2 hp']
end Go.Pv.T
namespace Go.Pv.T
open Go Go.Pv
set_option linter.unusedSimpArgs false
set_option linter.unusedVariables false

theorem group_eq (a b : Group) : (a == b) = (a.name == b.name && a.users == b.users && a.groups == b.groups) := by
  rw [Bool.eq_iff_iff]; cases a; cases b; simp [and_assoc]
set_option maxHeartbeats 4000000 in
theorem w_ref44_Same {C : Ctx} (h1 : C.TP i_ref44_SameInts = some (eqG dInts)) (h2 : C.TP i_ref44_sameTexts = some (eqG dStrs)) {v w : AV} {p q : Policy} (hp : dPolicy v = some p) (hq : dPolicy w = some q) :
    FnW C c_ref44_Same r_ref44_Same [v, w] (.bool (p == q)) := by
  unfold FnW c_ref44_Same r_ref44_Same
  obtain ⟨x, y, rfl, a1, a2, a3, a4⟩ := dPolicy_inv hp
  obtain ⟨x', y', rfl, b1, b2, b3, b4⟩ := dPolicy_inv hq
  rw [policy_eq]
  generalize hv : AV.bool (p.groups == q.groups && p.rules == q.rules) = u
  simp +contextual -implicitDefEqProofs [boxA, dSl_one a1, dSl_one a2, dSl_one b1, dSl_one b2, dSl_len a1, dSl_len a2, dSl_len b1, dSl_len b2]
  refine Ck_mk ?_ ?_ <;> intro hc
  · simp +contextual -implicitDefEqProofs
    rw [← hv]
    by_cases hgl : p.groups.length = q.groups.length
    · have hrl : p.rules.length ≠ q.rules.length := by simp at hc; omega
      rw [beq_len hrl, Bool.and_false]
    · rw [beq_len hgl, Bool.false_and]
  · have hgl : p.groups.length = q.groups.length := by simp at hc; omega
    have hrl : p.rules.length = q.rules.length := by simp at hc; omega
    simp +contextual -implicitDefEqProofs [dSl_len a1]
    obtain ⟨J, hJ⟩ : ∃ J : Nat → Env → Nat → Hp → Prop, J = Scan [(2, .ptr 0 0 0), (3, .ptr 1 0 0)] [(0, .row [[x, y]] false), (1, .row [[x', y']] false)] fun j => p.groups[j]? = q.groups[j]? := ⟨_, rfl⟩
    refine Wk_scan p.groups.length 5 0 J a3 (Nat.zero_le _) (by simp) (hJ ▸ ⟨by simp, by simp, Upto.zero⟩) ?_ ?_
    · intro i env n h _ hi hw ei hj
      rw [hJ] at hj
      obtain ⟨fe, fh, hpp⟩ := hj
      simp only [FE_cons, FE_nil, FH_cons, FH_nil, and_true] at fe fh
      obtain ⟨ca, q1, q2⟩ := dSl_at a1 hi
      obtain ⟨cb, q3, q4⟩ := dSl_at b1 (hgl ▸ hi)
      obtain ⟨u1, g1, rfl, e1, e2, e3, e4⟩ := dGroup_inv q2
      obtain ⟨u2, g2, rfl, f1, f2, f3, f4⟩ := dGroup_inv q4
      have k0 : ¬ 0 = n := by omega
      have k1 : ¬ 1 = n := by omega
      have k2 : ¬ n = 0 := by omega
      have k3 : ¬ n = 1 := by omega
      have k4 : ¬ 0 = n + 1 := by omega
      have k5 : ¬ 1 = n + 1 := by omega
      simp +contextual -implicitDefEqProofs [ei, fe, fh, hi, dSl_len a1, q1, q3, confL, pairsL, indL, rdI, Nat.testBit, k0, k1, k2, k3, k4, k5, dSl_one e1, dSl_one e2, dSl_one f1, dSl_one f2, callA_fix h1, callA_fix h2, eqG, e1, e2, e3, e4, f1, f2, f3, f4, dSl_fix e1, dSl_fix e2, dSl_fix f1, dSl_fix f2, hw]
      have hge := group_eq p.groups[i] q.groups[i]
      refine Ck_mk ?_ ?_ <;> intro hb
      · have hgf : (p.groups[i] == q.groups[i]) = false := by
          rw [hge, ← Bool.not_eq_true]; intro hh
          simp only [Bool.and_eq_true, beq_iff_eq] at hh
          simp [hh] at hb
        simp +contextual -implicitDefEqProofs
        rw [← hv, beq_at hi (hgl ▸ hi) (by simpa using hgf), Bool.false_and]
      · have hgt : (p.groups[i] == q.groups[i]) = true := by
          rw [hge]
          simp only [Bool.or_eq_false_iff, Bool.not_eq_false', beq_iff_eq] at hb
          simp [hb]
        simp +contextual -implicitDefEqProofs [ei, fe, fh, hw]
        rw [hJ]
        exact ⟨by simp [fe], by simp [fh, k0, k1, k2, k3, k4, k5], hpp.succ (by rw [List.getElem?_eq_getElem hi, List.getElem?_eq_getElem (hgl ▸ hi)]; simpa using hgt)⟩
    · intro env n h ei hj
      rw [hJ] at hj
      obtain ⟨fe, fh, hpp⟩ := hj
      simp only [FE_cons, FE_nil, FH_cons, FH_nil, and_true] at fe fh
      simp +contextual -implicitDefEqProofs [ei, fe, fh, dSl_len a1, dSl_len a2]
      have hgg : (p.groups == q.groups) = true := beq_all hgl fun j hj => by have := hpp j hj; simp only [List.getElem?_eq_getElem hj, List.getElem?_eq_getElem (hgl ▸ hj)] at this; exact Option.some.inj this
      rw [hgg, Bool.true_and] at hv
      clear hJ hpp
      obtain ⟨J, hJ⟩ : ∃ J : Nat → Env → Nat → Hp → Prop, J = Scan [(2, .ptr 0 0 0), (3, .ptr 1 0 0)] [(0, .row [[x, y]] false), (1, .row [[x', y']] false)] fun j => p.rules[j]? = q.rules[j]? := ⟨_, rfl⟩
      refine Wk_scan p.rules.length 8 0 J a4 (Nat.zero_le _) (by simp) (hJ ▸ ⟨by simp [fe], by simp [fh], Upto.zero⟩) ?_ ?_
      · intro i env n h _ hi hw ei hj
        rw [hJ] at hj
        obtain ⟨fe, fh, hpp⟩ := hj
        simp only [FE_cons, FE_nil, FH_cons, FH_nil, and_true] at fe fh
        obtain ⟨ca, q1, q2⟩ := dSl_at a2 hi
        obtain ⟨cb, q3, q4⟩ := dSl_at b2 (hrl ▸ hi)
        simp +contextual -implicitDefEqProofs [ei, fe, fh, hi, dSl_len a2, q1, q3, hw, dRule_len q2, dRule_len q4, take_all (dRule_len q2), take_all (dRule_len q4), dRule_ones q2, dRule_ones q4, dRule_eq q2 q4]
        refine Ck_mk ?_ ?_ <;> intro hb
        · simp +contextual -implicitDefEqProofs
          rw [← hv, beq_at hi (hrl ▸ hi) (by simpa using hb)]
        · simp +contextual -implicitDefEqProofs [ei, fe, fh, hw]
          rw [hJ]
          exact ⟨by simp [fe], by simp [fh], hpp.succ (by rw [List.getElem?_eq_getElem hi, List.getElem?_eq_getElem (hrl ▸ hi)]; simpa using hb)⟩
      · intro env n h ei hj
        rw [hJ] at hj
        obtain ⟨fe, fh, hpp⟩ := hj
        simp only [FE_cons, FE_nil, FH_cons, FH_nil, and_true] at fe fh
        have hrr : (p.rules == q.rules) = true := beq_all hrl fun j hj => by have := hpp j hj; simp only [List.getElem?_eq_getElem hj, List.getElem?_eq_getElem (hrl ▸ hj)] at this; exact Option.some.inj this
        simp +contextual -implicitDefEqProofs [ei, fe, fh, dSl_len a2]
        rw [← hv, hrr]
end Go.Pv.T
namespace Go.Pv.T
open Go Go.Pv
set_option linter.unusedSimpArgs false
set_option linter.unusedVariables false

/-! ### the law -/
def smallB (p : Policy) : Bool := decide (p.groups.length ≤ 40) && decide (p.rules.length ≤ 40) && p.groups.all fun g => decide (g.users.length ≤ 40) && decide (g.groups.length ≤ 40)
def G_small : List AV → Option AV
  | [v] => match dPolicy v with
    | some p => some (.bool (smallB p))
    | none => none
  | _ => none
theorem w_law44_small {C : Ctx} {v : AV} {p : Policy} (hp : dPolicy v = some p) :
    FnW C c_law44_small r_law44_small [v] (.bool (smallB p)) := by
  unfold FnW c_law44_small r_law44_small
  obtain ⟨x, y, rfl, a1, a2, a3, a4⟩ := dPolicy_inv hp
  generalize hv : AV.bool (smallB p) = u
  simp +contextual -implicitDefEqProofs [boxA, dSl_one a1, dSl_one a2, dSl_len a1, dSl_len a2]
  refine Ck_mk ?_ ?_ <;> intro hc
  · simp +contextual -implicitDefEqProofs
    rw [← hv, smallB]
    have : (decide (p.groups.length ≤ 40) && decide (p.rules.length ≤ 40)) = false := by
      rw [← Bool.not_eq_true]; intro q; simp at q hc; omega
    rw [this, Bool.false_and]
  · have hc2 : (decide (p.groups.length ≤ 40) && decide (p.rules.length ≤ 40)) = true := by
      simp at hc ⊢; omega
    simp +contextual -implicitDefEqProofs [dSl_len a1]
    obtain ⟨J, hJ⟩ : ∃ J : Nat → Env → Nat → Hp → Prop, J = Scan [(1, .ptr 0 0 0)] [(0, .row [[x, y]] false)] fun j => ∀ hj : j < p.groups.length, (decide (p.groups[j].users.length ≤ 40) && decide (p.groups[j].groups.length ≤ 40)) = true := ⟨_, rfl⟩
    refine Wk_scan p.groups.length 3 0 J a3 (Nat.zero_le _) (by simp) (hJ ▸ ⟨by simp, by simp, Upto.zero⟩) ?_ ?_
    · intro i env n h _ hi hw ei hj
      rw [hJ] at hj
      obtain ⟨fe, fh, hpp⟩ := hj
      simp only [FE_cons, FE_nil, FH_cons, FH_nil, and_true] at fe fh
      obtain ⟨ca, q1, q2⟩ := dSl_at a1 hi
      obtain ⟨u1, g1, rfl, e1, e2, e3, e4⟩ := dGroup_inv q2
      simp +contextual -implicitDefEqProofs [ei, fe, fh, hi, dSl_len a1, q1, dSl_len e1, dSl_len e2]
      refine Ck_mk ?_ ?_ <;> intro hb
      · simp +contextual -implicitDefEqProofs
        rw [← hv, smallB, all_at hi, Bool.and_false]
        rw [← Bool.not_eq_true]; intro q; simp at q hb; omega
      · simp +contextual -implicitDefEqProofs [ei, fe, fh, hw]
        rw [hJ]
        refine ⟨by simp [fe], by simp [fh], hpp.succ fun _ => ?_⟩
        simp at hb ⊢; omega
    · intro env n h ei hj
      rw [hJ] at hj
      obtain ⟨fe, fh, hpp⟩ := hj
      simp only [FE_cons, FE_nil, FH_cons, FH_nil, and_true] at fe fh
      simp +contextual -implicitDefEqProofs [ei, fe, fh, dSl_len a1]
      rw [← hv, smallB, hc2, Bool.true_and, all_none fun j hj => hpp j hj hj]
def G_alive : List AV → Option AV
  | [] => some (.bool true)
  | _ => none
def G_AccessRights : List AV → Option AV
  | [v, w] => match dPolicy v, dPolicy w with
    | some _, some _ => some (.bool true)
    | _, _ => none
  | _ => none
theorem w_law44_AccessRights {C : Ctx} (hA : C.TP i_law44_alive = some G_alive) (h1 : C.TP i_law44_small = some G_small) (h2 : C.TP i_access_Right = some G_right) (h3 : C.TP i_ref44_Right = some G_right) (h4 : C.TP i_access_Same = some G_Same) (h5 : C.TP i_ref44_Same = some G_Same) {v w : AV} {p q : Policy} (hp : dPolicy v = some p) (hq : dPolicy w = some q) :
    FnW C c_law44_AccessRights r_law44_AccessRights [v, w] (.bool true) := by
  unfold FnW c_law44_AccessRights r_law44_AccessRights
  have s1 : G_small [v] = some (.bool (smallB p)) := by simp [G_small, hp]
  have s2 : G_small [w] = some (.bool (smallB q)) := by simp [G_small, hq]
  have s3 : G_right [v] = some (.int .i64 (rightS p)) := by simp [G_right, hp]
  have s4 : G_Same [v, w] = some (.bool (p == q)) := by simp [G_Same, hp, hq]
  have s5 : G_Same [v, v] = some (.bool (p == p)) := by simp [G_Same, hp]
  obtain ⟨x, y, rfl, a1, a2, a3, a4⟩ := dPolicy_inv hp
  obtain ⟨x', y', rfl, b1, b2, b3, b4⟩ := dPolicy_inv hq
  have g0 : G_alive [] = some (.bool true) := rfl
  simp +contextual -implicitDefEqProofs [boxA, dSl_one a1, dSl_one a2, dSl_one b1, dSl_one b2, callA_fix hA, callA_fix h1, dSl_fix1 a1, dSl_fix1 a2, dSl_fix1 b1, dSl_fix1 b2, g0, s1, s2]
  refine Ck_mk ?_ ?_ <;> intro hc
  · simp +contextual -implicitDefEqProofs
  · have hc1 : smallB p = true := by simp at hc; exact hc.1
    have hc2 : smallB q = true := by simp at hc; exact hc.2
    simp +contextual -implicitDefEqProofs [dSl_one a1, dSl_one a2, dSl_one b1, dSl_one b2, callA_fix h2, callA_fix h3, callA_fix h4, callA_fix h5, dSl_fix1 a1, dSl_fix1 a2, dSl_fix1 b1, dSl_fix1 b2, s3, s4, s5, confL, pairsL, indL, rdI, rdI_callF h2, rdI_callF h3, rdI_callF h4, rdI_callF h5, Nat.testBit]
end Go.Pv.T
namespace Go.Pv.T
open Go Go.Pv
set_option linter.unusedSimpArgs false
set_option linter.unusedVariables false

@[simp] theorem eqs_nn : binC .eql .s .nils .nils = some (.bool true) := rfl
@[simp] theorem eqs_ln {a b c} : binC .eql .s (.lst a b c) .nils = some (.bool false) := rfl
@[simp] theorem eqs_an {a b c d e f} : binC .eql .s (.arr a b c d e f) .nils = some (.bool false) := rfl
@[simp] theorem neqs_nn : binC .neq .s .nils .nils = some (.bool false) := rfl
@[simp] theorem neqs_ln {a b c} : binC .neq .s (.lst a b c) .nils = some (.bool true) := rfl
@[simp] theorem neqs_an {a b c d e f} : binC .neq .s (.arr a b c d e f) .nils = some (.bool true) := rfl
/-! ### copies -/
/-- An own slice, one that was made empty, or nil. -/
def OwnN (h : Hp) (m n sz : Nat) (v : AV) (es : List (List AV)) : Prop := (v = .nils ∧ es = []) ∨ OwnZ h m n sz v es
theorem OwnN.keep {h h' : Hp} {m n n' sz : Nat} {v : AV} {es : List (List AV)} (o : OwnN h m n sz v es) (hn : n ≤ n') (hh : ∀ j, m ≤ j → j < n → h' j = h j) : OwnN h' m n' sz v es :=
  o.imp id fun o => o.keep hn hh
theorem OwnN.append {h : Hp} {sz m m' n : Nat} {v x : AV} {es new : List (List AV)} (o : OwnN h m m' sz v es) (hmn : m ≤ n) (hm : m' ≤ n) (hx : elsOf h sz x = some new) (hne : new ≠ []) (hl : es.length + new.length ≤ lenLim) :
    ∃ v' ws, appendC sz v x n h = some (v', ws, n + 1) ∧ Own1 (updW h ws) m (n + 1) sz v' (es ++ new) ∧ (∀ j, j < n → ¬ diesA v j → updW h ws j = h j) ∧ (∀ w ∈ ws, w.1 = n ∨ diesA v w.1) := by
  rcases o with o | o
  · exact Own.append (.inl o) hmn hm hx hne hl
  · exact o.append hmn hm hx hne hl
theorem OwnN.append0 {h : Hp} {sz m m' n : Nat} {v x : AV} {es : List (List AV)} (o : OwnN h m m' sz v es) (hx : elsOf h sz x = some []) : appendC sz v x n h = some (v, [], n) := by
  unfold appendC
  rw [hx]
  rcases o with ⟨rfl, rfl⟩ | ⟨id, h1, rfl, h3⟩ | ⟨id, h1, rfl, h3⟩ <;> rfl
theorem OwnN.dies {h : Hp} {m n sz : Nat} {v : AV} {es : List (List AV)} (o : OwnN h m n sz v es) {j : Nat} (hj : j < m ∨ n ≤ j) : ¬ diesA v j := by
  rcases o with ⟨rfl, rfl⟩ | o
  · exact fun q => q
  · exact o.dies hj
def rowI (l : List Int) : List (List AV) := l.map fun z => [.int .i64 z]
theorem elsOf_dSl {β : Type} {d : List AV → Option β} {sz : Nat} {x : AV} {l : List β} {h : Hp} (hx : dSl sz d x = some l) : ∃ es, elsOf h sz x = some es ∧ seqO d es = some l := by
  rcases dSl_inv hx with ⟨rfl, rfl⟩ | ⟨es, f, rfl, q⟩
  · exact ⟨[], rfl, rfl⟩
  · refine ⟨es, ?_, q⟩
    have : sz = sz := rfl
    simp [elsOf]
theorem seqO_rowI : ∀ {es : List (List AV)} {l : List Int}, seqO dInt es = some l → es = rowI l := by
  intro es
  induction es with
  | nil => intro l h; cases h; rfl
  | cons e r ih =>
    intro l h
    simp only [seqO] at h
    split at h
    · rename_i a l' h1 h2
      cases h
      rw [ih h2, dInt_inv h1]; rfl
    · cases h
theorem elsOf_ints {x : AV} {l : List Int} {h : Hp} (hx : dInts x = some l) : elsOf h 1 x = some (rowI l) := by
  obtain ⟨es, h1, h2⟩ := elsOf_dSl (h := h) hx
  rw [h1, seqO_rowI h2]
/-- What a copy is. -/
def PostCl (x : AV) (l : List Int) (n0 : Nat) (h0 : Hp) (v : AV) (n : Nat) (h : Hp) : Prop := n0 ≤ n ∧ (∀ j, j < n0 → h j = h0 j) ∧ OwnN h n0 n 1 v (rowI l) ∧ (l = [] → (v = .nils ↔ x = .nils))
theorem w_slices_Clone_int {C : Ctx} {x : AV} {l : List Int} (hx : dInts x = some l) (hl : l.length ≤ lenLim) (n : Nat) (h : Hp) : FnI C c_slices_Clone_Lint_int r_slices_Clone_Lint_int [x] n h (PostCl x l n h) := by
  unfold FnI c_slices_Clone_Lint_int r_slices_Clone_Lint_int
  generalize hP : PostCl x l n h = P
  have hel := fun h => elsOf_ints (h := h) hx
  rcases dSl_inv hx with ⟨rfl, rfl⟩ | ⟨es, f, rfl, q⟩
  · simp +contextual -implicitDefEqProofs
    rw [← hP]
    exact ⟨Nat.le_refl _, fun _ _ => rfl, .inl ⟨rfl, by cases hx; rfl⟩, fun _ => by simp⟩
  · have o : OwnN (upd h n (.row [] false)) n (n + 1) 1 (.arr n 0 0 0 1 false) [] := .inr (.inl ⟨n, by omega, rfl, by simp, rfl⟩)
    have hx' := hel (upd h n (.row [] false))
    by_cases hl0 : l = []
    · subst hl0
      have e := o.append0 (n := n + 1) (x := .lst 1 es f) hx'
      simp +contextual -implicitDefEqProofs [fillE, e]
      rw [← hP]
      exact ⟨by omega, fun j hj => by simp [show ¬ j = n by omega], o, fun _ => by simp⟩
    · obtain ⟨v', ws, e, o', hk, -⟩ := o.append (n := n + 1) (x := .lst 1 es f) (by omega) (Nat.le_refl _) hx' (by simpa [rowI] using hl0) (by simpa [rowI] using hl)
      simp +contextual -implicitDefEqProofs [fillE, e]
      rw [← hP]
      refine ⟨by omega, fun j hj => ?_, .inr (.inr ?_), fun q => absurd q hl0⟩
      · rw [hk j (by omega) (o.dies (by omega))]
        simp [show ¬ j = n by omega]
      · simpa using o'
end Go.Pv.T
namespace Go.Pv.T
open Go Go.Pv
set_option linter.unusedSimpArgs false
set_option linter.unusedVariables false

/-! ### sorted lists without doubles -/
theorem strict_ext : ∀ {a b : List Int}, a.Pairwise (· < ·) → b.Pairwise (· < ·) → (∀ x, x ∈ a ↔ x ∈ b) → a = b := by
  intro a
  induction a with
  | nil =>
    intro b _ _ h
    cases b with
    | nil => rfl
    | cons y s => have := (h y).2 (by simp); simp at this
  | cons x r ih =>
    intro b ha hb h
    cases b with
    | nil => have := (h x).1 (by simp); simp at this
    | cons y s =>
      rw [List.pairwise_cons] at ha hb
      have hxy : x = y := by
        have h1 := (h x).1 (by simp)
        have h2 := (h y).2 (by simp)
        simp only [List.mem_cons] at h1 h2
        rcases h1 with h1 | h1
        · exact h1
        · rcases h2 with h2 | h2
          · exact h2.symm
          · have := hb.1 x h1; have := ha.1 y h2; omega
      subst hxy
      rw [ih ha.2 hb.2 fun z => ?_]
      constructor
      · intro hz
        have h1 := (h z).1 (by simp [hz])
        have := ha.1 z hz
        simp only [List.mem_cons] at h1
        rcases h1 with h1 | h1
        · omega
        · exact h1
      · intro hz
        have h1 := (h z).2 (by simp [hz])
        have := hb.1 z hz
        simp only [List.mem_cons] at h1
        rcases h1 with h1 | h1
        · omega
        · exact h1
theorem compactUpTo_sorted (d : Array Int) (hs : ∀ i j, i ≤ j → j < d.size → d[i]! ≤ d[j]!) : ∀ m, m ≤ d.size → (Lib.compactUpTo d m).Pairwise (· < ·) ∧ (∀ x, x ∈ Lib.compactUpTo d m ↔ ∃ j, j < m ∧ d[j]! = x) := by
  intro m
  induction m with
  | zero => intro _; simp [Lib.compactUpTo]
  | succ m ih =>
    intro hm
    obtain ⟨h1, h2⟩ := ih (by omega)
    rw [Lib.compactUpTo_succ]
    by_cases hk : Lib.keeps d m = true
    · rw [if_pos hk]
      refine ⟨?_, fun x => ?_⟩
      · rw [List.pairwise_append]
        refine ⟨h1, by simp, fun x hx y hy => ?_⟩
        simp at hy
        subst hy
        obtain ⟨j, hj, rfl⟩ := (h2 x).1 hx
        have hm0 : m ≠ 0 := by omega
        have hne : d[m]! ≠ d[m - 1]! := by
          simp only [Lib.keeps, decide_eq_true_eq] at hk
          exact hk.resolve_left hm0
        have a1 := hs j (m - 1) (by omega) (by omega)
        have a2 := hs (m - 1) m (by omega) (by omega)
        omega
      · rw [List.mem_append, h2]
        constructor
        · rintro (⟨j, hj, rfl⟩ | hx)
          · exact ⟨j, by omega, rfl⟩
          · simp at hx; exact ⟨m, by omega, hx.symm⟩
        · rintro ⟨j, hj, rfl⟩
          by_cases e : j = m
          · subst e; right; simp
          · left; exact ⟨j, by omega, rfl⟩
    · rw [if_neg hk, List.append_nil]
      refine ⟨h1, fun x => ?_⟩
      rw [h2]
      have hm0 : m ≠ 0 ∧ d[m]! = d[m - 1]! := by
        simp only [Lib.keeps, decide_eq_true_eq, not_or, ne_eq] at hk
        exact ⟨hk.1, by omega⟩
      constructor
      · rintro ⟨j, hj, rfl⟩; exact ⟨j, by omega, rfl⟩
      · rintro ⟨j, hj, rfl⟩
        by_cases e : j = m
        · subst e; exact ⟨j - 1, by omega, hm0.2.symm⟩
        · exact ⟨j, by omega, rfl⟩
theorem compact_sorted {zs : List Int} (hs : zs.Pairwise (· ≤ ·)) : (Lib.compact zs).Pairwise (· < ·) ∧ ∀ x, x ∈ Lib.compact zs ↔ x ∈ zs := by
  have hg : ∀ i (hi : i < zs.length), zs.toArray[i]! = zs[i] := fun i hi => by
    rw [getElem!_pos zs.toArray i (by simpa using hi)]; simp
  obtain ⟨h1, h2⟩ := compactUpTo_sorted zs.toArray (fun i j hij hj => by
    have hj' : j < zs.length := by simpa using hj
    rw [hg i (by omega), hg j hj']
    by_cases e : i = j
    · subst e; exact Int.le_refl _
    · exact List.pairwise_iff_getElem.1 hs i j (by omega) hj' (by omega)) zs.length (by simp)
  refine ⟨h1, fun x => ?_⟩
  unfold Lib.compact
  rw [h2, List.mem_iff_getElem]
  constructor
  · rintro ⟨j, hj, rfl⟩; exact ⟨j, hj, (hg j hj).symm⟩
  · rintro ⟨j, hj, rfl⟩; exact ⟨j, hj, hg j hj⟩
theorem sortI_sorted (zs : List Int) : (sortI zs).Pairwise (· ≤ ·) := by
  have := List.pairwise_mergeSort (le := fun x y : Int => decide (x ≤ y)) (fun a b c h1 h2 => by simp at *; omega) (fun a b => by simp; omega) zs
  simpa [sortI] using this
theorem sortI_mem (zs : List Int) (x : Int) : x ∈ sortI zs ↔ x ∈ zs := by simp [sortI]
/-- What is in a list, in order, without doubles. -/
def setI (zs : List Int) : List Int := Lib.compact (sortI zs)
theorem setI_sorted (zs : List Int) : (setI zs).Pairwise (· < ·) := (compact_sorted (sortI_sorted zs)).1
theorem setI_mem (zs : List Int) (x : Int) : x ∈ setI zs ↔ x ∈ zs := by rw [setI, (compact_sorted (sortI_sorted zs)).2, sortI_mem]
theorem setI_eq {a b : List Int} (h : ∀ x, x ∈ a ↔ x ∈ b) : setI a = setI b := strict_ext (setI_sorted a) (setI_sorted b) fun x => by rw [setI_mem, setI_mem, h]
theorem setI_len (zs : List Int) : (setI zs).length ≤ zs.length := by
  have := compact_le (sortI zs)
  simpa [setI, sortI] using this
theorem nil_iff {α : Type} {a : List α} : a = [] ↔ ∀ x, x ∉ a := by
  constructor
  · rintro rfl; simp
  · intro h
    cases a with
    | nil => rfl
    | cons x r => exact absurd (List.mem_cons_self ..) (h x)
theorem setI_nil {a : List Int} : setI a = [] ↔ a = [] := by rw [nil_iff, nil_iff]; simp only [setI_mem]
end Go.Pv.T
namespace Go.Pv.T
open Go Go.Pv
set_option linter.unusedSimpArgs false
set_option linter.unusedVariables false

/-! ### own slices: growth at a new number; sorting -/
theorem OwnN.growN {h : Hp} {sz a b n : Nat} {v x : AV} {es new : List (List AV)} (o : OwnN h a b sz v es) (hb : b ≤ n) (hx : elsOf h sz x = some new) (hne : new ≠ []) (hl : es.length + new.length ≤ lenLim) :
    ∃ v' ws, appendC sz v x n h = some (v', ws, n + 1) ∧ OwnN (updW h ws) n (n + 1) sz v' (es ++ new) ∧ v' ≠ .nils ∧ (∀ j, j < n → ¬ diesA v j → updW h ws j = h j) := by
  have hpos : 0 < new.length := List.length_pos_iff.2 hne
  obtain ⟨y, r, rfl⟩ : ∃ y r, new = y :: r := by
    cases new with
    | nil => exact absurd rfl hne
    | cons y r => exact ⟨y, r, rfl⟩
  rcases o with ⟨rfl, rfl⟩ | ⟨id, h1, rfl, h3, rfl⟩ | ⟨id, h1, rfl, h3, h4⟩
  · refine ⟨.arr n 0 (y :: r).length (y :: r).length sz true, [(n, .row (y :: r) false)], ?_, .inr (.inr ⟨n, by omega, by simp, by simp [updW, upd], by simp⟩), by simp, fun j hj _ => by simp [updW, upd, show ¬ j = n by omega]⟩
    unfold appendC
    rw [hx]
    have : 0 + (y :: r).length ≤ lenLim := by simpa using hl
    simp only [lenA, this, if_true]
  · refine ⟨.arr n 0 (0 + (y :: r).length) (0 + (y :: r).length) sz true, [(n, .row (y :: r) false)], ?_, .inr (.inr ⟨n, by omega, by simp, by simp [updW, upd], by simp⟩), by simp, fun j hj _ => by simp [updW, upd, show ¬ j = n by omega]⟩
    unfold appendC
    rw [hx]
    have h5 : 0 + (y :: r).length ≤ lenLim := by simpa using hl
    have h6 : ¬ 0 + (y :: r).length ≤ 0 := by simp
    simp only [lenA, h5, if_true, h3, h6, if_false, List.length_nil, Nat.le_refl, and_self, Bool.false_eq_true, List.drop_nil, List.take_nil, List.nil_append, Nat.zero_add, Nat.add_zero]
    simpa using h5
  · have hid : id ≠ n := by omega
    refine ⟨.arr n 0 (es.length + (y :: r).length) (es.length + (y :: r).length) sz true, [(n, .row (es ++ y :: r) false), (id, .dead)], ?_, .inr (.inr ⟨n, by omega, by simp, ?_, by simp⟩), by simp, fun j hj hne => ?_⟩
    · unfold appendC
      rw [hx]
      have : ¬ es.length + (y :: r).length ≤ es.length := by simp
      simp only [lenA, hl, if_true, h3, Nat.zero_add, Nat.le_refl, and_self, this, if_false]
    · simp [updW, upd, Ne.symm hid]
    · simp only [diesA] at hne
      simp only [updW_cons, updW_nil, upd_get, hne, if_false]
      rw [if_neg (by omega)]
theorem seqO_row : ∀ (l : List Int), seqO decInt (rowI l) = some l := by
  intro l
  induction l with
  | nil => rfl
  | cons x r ih => simp only [rowI, List.map_cons, seqO, decInt] at ih ⊢; rw [ih]
theorem rowI_len (l : List Int) : (rowI l).length = l.length := by simp [rowI]
theorem T_Sort_own {h : Hp} {a b n : Nat} {v : AV} {zs : List Int} (o : OwnN h a b 1 v (rowI zs)) (hl : zs.length ≤ lenLim) :
    ∃ ws, T_Sort [v] n h = some (.tup [], ws, n) ∧ OwnN (updW h ws) a b 1 v (rowI (sortI zs)) := by
  have hlen : (sortI zs).length = zs.length := by simp [sortI]
  rcases o with ⟨rfl, h0⟩ | ⟨id, h1, rfl, h3, h0⟩ | ⟨id, h1, rfl, h3, h4⟩
  · have : zs = [] := by simpa [rowI] using h0
    subst this
    exact ⟨[], rfl, .inl ⟨rfl, by simp [sortI, rowI]⟩⟩
  · have : zs = [] := by simpa [rowI] using h0
    subst this
    refine ⟨[(id, .row [] false)], ?_, .inr (.inl ⟨id, h1, rfl, by simp, by simp [sortI, rowI]⟩)⟩
    simp [T_Sort, rowT, h3, seqO, sortI]
  · have hz : zs ≠ [] := by rintro rfl; exact h4 rfl
    refine ⟨[(id, .row (rowI (sortI zs)) false)], ?_, .inr (.inr ⟨id, h1, ?_, by simp, ?_⟩)⟩
    · have e : seqO encInt.dec (List.take zs.length (rowI zs)) = some zs := by rw [← rowI_len, List.take_length]; exact seqO_row zs
      have h5 : (zs.length : Nat) < 4611686018427387904 := by simp only [lenLim] at hl; omega
      simp only [T_Sort, rowT, h3, rowI_len, Nat.zero_add, Nat.le_refl, h5, and_self, if_true, List.drop_zero, e, List.take_zero, List.nil_append]
      rw [← rowI_len zs, List.drop_length, List.append_nil]
      rfl
    · rw [rowI_len, rowI_len, hlen]
    · intro q
      have := congrArg List.length q
      rw [rowI_len, hlen] at this
      exact hz (List.length_eq_zero_iff.1 this)
/-- What a set looks like. -/
def isNils : AV → Bool
  | .nils => true
  | _ => false
def ansU (u : AV) (zs : List Int) : AV := if zs = [] then (if isNils u = true then .nils else .lst 1 [] true) else .lst 1 (rowI zs) false
theorem ansU_ints (u : AV) (zs : List Int) : dInts (ansU u zs) = some zs := by
  have key : ∀ l : List Int, seqO dInt (rowI l) = some l := by
    intro l
    induction l with
    | nil => rfl
    | cons x r ih => simp only [rowI, List.map_cons, seqO, dInt] at ih ⊢; rw [ih]
  unfold ansU
  split
  · rename_i q
    subst q
    split <;> rfl
  · simp only [dInts, dSl, if_true]; exact key zs
theorem T_Compact_own {h : Hp} {a b n : Nat} {v : AV} {zs : List Int} (o : OwnN h a b 1 v (rowI zs)) (hl : zs.length ≤ lenLim) (hc : Lib.compact zs = [] → zs = []) :
    ∃ v' ws, T_Compact [v] n h = some (v', ws, n) ∧ ∃ ids, snap (updW h ws) snapD v' = some (ansU v (Lib.compact zs), ids) := by
  have hc0 : Lib.compact ([] : List Int) = [] := rfl
  rcases o with ⟨rfl, h0⟩ | ⟨id, h1, rfl, h3, h0⟩ | ⟨id, h1, rfl, h3, h4⟩
  · have : zs = [] := by simpa [rowI] using h0
    subst this
    exact ⟨.nils, [], rfl, [], by rw [hc0]; rfl⟩
  · have : zs = [] := by simpa [rowI] using h0
    subst this
    refine ⟨.arr id 0 0 0 1 false, [(id, .row [] false)], ?_, [id], ?_⟩
    · simp [T_Compact, rowT, h3, seqO, compactI, hc0]
    · rw [show snapD = 10 + 2 from rfl, snap_arrE (es := []) (len := 0) (fr := false) (by simp) rfl (by simp), hc0]; rfl
  · have hz : zs ≠ [] := by rintro rfl; exact h4 rfl
    have hcl := compact_le zs
    refine ⟨.arr id 0 (Lib.compact zs).length zs.length 1 true, [(id, .row (rowI (compactI zs)) false)], ?_, ?_⟩
    · have e : seqO encInt.dec (List.take zs.length (rowI zs)) = some zs := by rw [← rowI_len, List.take_length]; exact seqO_row zs
      have h5 : (zs.length : Nat) < 4611686018427387904 := by simp only [lenLim] at hl; omega
      simp only [T_Compact, rowT, h3, rowI_len, Nat.zero_add, Nat.le_refl, h5, and_self, if_true, List.drop_zero, e, List.take_zero, List.nil_append]
      rw [← rowI_len zs, List.drop_length, List.append_nil, rowI_len]
      rfl
    · have hr : updW h [(id, .row (rowI (compactI zs)) false)] id = .row (rowI (compactI zs)) false := by simp
      generalize updW h [(id, .row (rowI (compactI zs)) false)] = H at hr
      have htk : (rowI (compactI zs)).take (Lib.compact zs).length = rowI (Lib.compact zs) := by
        simp only [rowI, ← List.map_take, compactI, List.take_left]
      have hf : ∀ e ∈ rowI (Lib.compact zs), ∀ x ∈ e, Fix1 x := by
        intro e he x hx
        simp only [rowI, List.mem_map] at he
        obtain ⟨z, _, rfl⟩ := he
        simp at hx; subst hx; simp
      have hne : Lib.compact zs ≠ [] := fun q => hz (hc q)
      have hun : snap H (10 + 2) (.arr id 0 (Lib.compact zs).length zs.length 1 true) = (match H id with
        | .row es _ => if 0 + (Lib.compact zs).length ≤ es.length then (snapEf (snap H (10 + 1)) ((es.drop 0).take (Lib.compact zs).length)).map fun (es', ids) => (.lst 1 es' (!true && decide (zs.length = (Lib.compact zs).length)), id :: ids) else none
        | _ => none) := rfl
      rw [show snapD = 10 + 2 from rfl, hun, hr]
      simp only [List.drop_zero, htk, Nat.zero_add]
      rw [if_pos (by rw [rowI_len, compactI, List.length_append]; omega)]
      rw [snapE_fix hf]
      exact ⟨[id], by simp [ansU, hne]⟩
end Go.Pv.T
namespace Go.Pv.T
open Go Go.Pv
set_option linter.unusedSimpArgs false
set_option linter.unusedVariables false

section
variable {C : Ctx} {env : Env} {n : Nat} {h : Hp} {Q : Ex → Env → Nat → Hp → Prop} {R : Env → Nat → Hp → Prop}
@[simp] theorem Hw_cc {c} : Hw C (.cc c) env n h Q = Wk C Q c [] env n h := rfl
@[simp] theorem Hw_rg {l} : Hw C (.rg l) env n h Q = Hr C l env n h (Q .normal) := rfl
theorem Hw_seq {a b} : Hw C (.seq a b) env n h Q = Hw C a env n h (thenQ (fun env n h => Hw C b env n h Q) Q) := rfl
theorem Hw_block {id a} : Hw C (.block id a) env n h Q = Hw C a env n h (blockQ id Q) := rfl
@[simp] theorem Hr_nil : Hr C [] env n h R = R env n h := rfl
@[simp] theorem Hr_o {x r} : Hr C (.o x :: r) env n h R = Rk C (fun _ env n h => Hr C r env n h R) false [x] [] env n h := rfl
theorem Hw_hide {a b} (h1 : ∀ K : Env → Nat → Hp → Prop, (∀ env n h, Hw C b env n h Q → K env n h) → Hw C a env n h (thenQ K Q)) : Hw C (.seq a b) env n h Q := h1 _ fun _ _ _ q => q
theorem Hw_loop {a} (I : Nat → Env → Nat → Hp → Prop) (k : Nat) (h0 : I k env n h) (hI : ∀ k env n h, I k env n h → Hw C a env n h (thenQ (fun env n h => ∃ k', k' < k ∧ I k' env n h) Q)) : Hw C (.loop a) env n h Q := ⟨I, k, h0, hI⟩
end
attribute [simp] thenQ_n thenQ_e thenQ_r blockQ_n blockQ_e blockQ_r

/-! ### the users of a group -/
def usersOf (l : List Group) (y : Nm) : List Int := ((fnd l y).getD z0).users
def usersL (l : List Group) (nm : Nm) : List Int := usersOf l nm ++ (insideS l nm).flatMap (usersOf l)
def usersS (l : List Group) (nm : Nm) : List Int := setI (usersL l nm)
def cellU (x : AV) (nm : Nm) : AV := match (slEls x).find? (isNm nm) with
  | some (_ :: u :: _) => u
  | _ => .nils
def SmallU (l : List Group) : Prop := Small l ∧ ∀ g ∈ l, g.users.length ≤ 16
theorem cellU_of {x : AV} {nm : Nm} {l : List Group} (hx : dGroups x = some l) {a u gs b : AV} (h : G_find [x, .str nm] = some (.tup [.agg [a, u, gs], b])) : cellU x nm = u := by
  simp only [G_find, hx] at h
  split at h
  · unfold cellU
    cases hf : (slEls x).find? (isNm nm) with
    | none => rw [hf] at h; simp [zGroup] at h; exact h.1.2.1
    | some c => rw [hf] at h; simp at h; rw [h.1]
  · cases h
theorem inj_of_nodup {α β : Type} {f : α → β} : ∀ {l : List α}, (l.map f).Nodup → ∀ {a b : α}, a ∈ l → b ∈ l → f a = f b → a = b := by
  intro l
  induction l with
  | nil => intro _ a b ha; simp at ha
  | cons x r ih =>
    intro hn a b ha hb hf
    rw [List.map_cons, List.nodup_cons] at hn
    simp only [List.mem_cons] at ha hb
    rcases ha with rfl | ha
    · rcases hb with rfl | hb
      · rfl
      · exact absurd (List.mem_map.2 ⟨b, hb, hf.symm⟩) hn.1
    · rcases hb with rfl | hb
      · exact absurd (List.mem_map.2 ⟨a, ha, hf⟩) hn.1
      · exact ih hn.2 ha hb hf
theorem reach_univ {l : List Group} {a b : Nm} (h : Reach l a b) : b ∈ univ l := by
  induction h with
  | one h => exact childs_univ h
  | step _ _ ih => exact ih
theorem usersOf_le {l : List Group} (hs : SmallU l) (y : Nm) : (usersOf l y).length ≤ 16 := by
  unfold usersOf
  cases h : fnd l y with
  | none => simp [z0]
  | some g => exact hs.2 g (List.mem_of_find?_eq_some h)
def KnowCl (C : Ctx) : Prop := C.TP i_slices_Clone_Lint_int = none ∧ ∀ x l, dInts x = some l → l.length ≤ lenLim → ∀ n h, ∃ v ws n', C.TI i_slices_Clone_Lint_int [x] n h = some (v, ws, n') ∧ PostCl x l n h v n' (updW h ws)
theorem w_group_Users {C : Ctx} (hF : C.TP i_group_find = some G_find) (hC : KnowCl C) (hK : KnowC C) (hS : C.TP i_slices_Sort_Lint_int = none ∧ C.TI i_slices_Sort_Lint_int = T_Sort) (hM : C.TP i_slices_Compact_Lint_int = none ∧ C.TI i_slices_Compact_Lint_int = T_Compact)
    {x : AV} {l : List Group} (hx : dGroups x = some l) (hs : SmallU l) (nm : Nm) : FnH C h_group_Users r_group_Users [x, .str nm] (ansU (cellU x nm) (usersS l nm)) := by
  unfold FnH h_group_Users r_group_Users
  have hll : l.length ≤ LI := by have := hs.1.1; simp only [LI]; omega
  generalize hv : ansU (cellU x nm) (usersS l nm) = v
  obtain ⟨c, hf1, hf2⟩ := G_find_of hx hll nm
  obtain ⟨u, gs, rfl, a1, a2, a3, a4⟩ := dGroup_inv hf2
  have hcu := cellU_of hx hf1
  have hul := usersOf_le hs nm
  unfold usersOf at hul
  obtain ⟨J1, hJ1⟩ : ∃ J : AV → Nat → Env → Nat → Hp → Prop, J = fun v7 n1 env n h => (env 0 = x ∧ env 1 = .str nm ∧ env 7 = v7) ∧ OwnN h 1 n1 1 v7 (rowI (usersOf l nm)) ∧ n1 ≤ n ∧ 1 ≤ n1 ∧ (usersOf l nm = [] → (v7 = .nils ↔ u = .nils)) := ⟨_, rfl⟩
  refine Hw_hide fun K1 hK1 => ?_
  simp +contextual -implicitDefEqProofs
  refine hK1 _ _ _ ?_
  refine Hw_hide fun K2 hK2 => ?_
  simp +contextual -implicitDefEqProofs [callA_fix hF, hf1, dSl_fix hx, dSl_one a1, dSl_one a2]
  refine hK2 _ _ _ ?_
  refine Hw_hide fun K3 hK3 => ?_
  simp +contextual -implicitDefEqProofs [callA_imp hC.1]
  refine Sk_imp _ (hC.2 u _ a1 (by simp only [lenLim]; omega) _ _) ?_
  rintro v7 ws n1 ⟨p1, p2, p3, p4⟩
  generalize updW _ ws = H at *
  simp +contextual -implicitDefEqProofs
  refine hK3 _ _ _ ?_
  refine Hw_hide fun K4 hK4 => ?_
  refine Hw_hide fun K5 hK5 => ?_
  simp +contextual -implicitDefEqProofs [callA_imp hK.1]
  refine Sk_imp _ (hK.2 x l hx hs.1 nm _ _) ?_
  rintro v2 ws2 n2 ⟨⟨r1, r2, mid, ks, es, clk, rfl, r4, r5, ⟨r6, r7⟩, r8, r9⟩, -⟩
  generalize updW _ ws2 = H2 at *
  simp +contextual -implicitDefEqProofs
  refine ⟨mid, es, clk, by simp, r5, ?_⟩
  simp +contextual -implicitDefEqProofs
  refine hK5 _ _ _ ?_
  have hz : (usersOf l nm).length ≤ 16 := usersOf_le hs nm
  have hkey : ∀ e ∈ es, ∃ y, e.1 = .str y ∧ Reach l nm y := by
    intro e he
    have h1 : (e.1, e.2.1) ∈ es.map (fun e => (e.1, e.2.1)) := List.mem_map.2 ⟨e, he, rfl⟩
    rw [show es.map (fun e => (e.1, e.2.1)) = ks.map fun k => (AV.str k.1, k.2) from r6, List.mem_map] at h1
    obtain ⟨k, k1, k2⟩ := h1
    simp only [Prod.mk.injEq] at k2
    refine ⟨k.1, k2.1.symm, (r9 k.1).1 ?_⟩
    unfold InM valS
    cases hfd : ks.find? (fun k' => k.1 == k'.1) with
    | none => have := List.find?_eq_none.1 hfd k k1; simp at this
    | some k' => have := r8 k.1 k'.2 (by unfold valS; rw [hfd]; rfl); simp [this]
  have hall : ∀ y, Reach l nm y → ∃ e ∈ es, e.1 = .str y := by
    intro y hy
    have h1 := (r9 y).2 hy
    unfold InM valS at h1
    cases hfd : ks.find? (fun k' => y == k'.1) with
    | none => rw [hfd] at h1; simp at h1
    | some k' =>
      have k1 := List.mem_of_find?_eq_some hfd
      have k2 := List.find?_some hfd
      have h2 : (AV.str k'.1, k'.2) ∈ ks.map (fun k => (AV.str k.1, k.2)) := List.mem_map.2 ⟨k', k1, rfl⟩
      rw [← show es.map (fun e => (e.1, e.2.1)) = ks.map fun k => (AV.str k.1, k.2) from r6, List.mem_map] at h2
      obtain ⟨e, e1, e2⟩ := h2
      simp only [Prod.mk.injEq] at e2
      simp at k2
      exact ⟨e, e1, by rw [e2.1, k2]⟩
  have hes : es.length ≤ 256 := by
    have h1 : (ks.map (·.1)).Nodup := by
      have := r7.ky
      rw [r6.keys] at this
      exact List.pairwise_map.2 ((List.pairwise_map.1 this).imp fun h e => h (congrArg _ e))
    have h2 := nodup_len h1 (b := univ l) fun y hy => by
      rw [List.mem_map] at hy
      obtain ⟨k, k1, rfl⟩ := hy
      have h3 : AV.str k.1 ∈ es.map (·.1) := by rw [r6.keys]; exact List.mem_map.2 ⟨k, k1, rfl⟩
      rw [List.mem_map] at h3
      obtain ⟨e, he, h4⟩ := h3
      obtain ⟨y, hy, hr⟩ := hkey e he
      rw [h4] at hy
      rw [AV.str.inj hy]
      exact reach_univ hr
    have h3 := univ_len hs.1
    have h4 := congrArg List.length r6
    simp at h4 h2; omega
  have hfl : ∀ vs : List Nm, (vs.flatMap (usersOf l)).length ≤ 16 * vs.length := by
    intro vs
    induction vs with
    | nil => simp
    | cons y r ih => have := usersOf_le hs y; simp only [List.flatMap_cons, List.length_append, List.length_cons]; omega
  obtain ⟨J, hJ⟩ : ∃ J : Nat → Env → Nat → Hp → Prop, J = fun k env n h => FE env [(0, x), (1, .str nm), (23, .iter n2)] ∧ FH h n [(mid, .map es clk)] ∧ n2 < n ∧ ∃ (ess : List (AV × AV × Nat)) (vs : List Nm) (a b : Nat),
      h n2 = .iter (some mid) clk (ess.map (·.2.2)) clk ∧ (∀ e ∈ ess, e ∈ es) ∧ (ess.map (·.2.2)).Nodup ∧ ess.map (·.1) = vs.map AV.str ∧ OwnN h a b 1 (env 7) (rowI (usersOf l nm ++ vs.flatMap (usersOf l))) ∧ 1 ≤ a ∧ b ≤ n ∧ (b ≤ n1 ∨ n2 < a) ∧
      (usersOf l nm ++ vs.flatMap (usersOf l) = [] → (env 7 = .nils ↔ u = .nils)) ∧ k + ess.length = es.length := ⟨_, rfl⟩
  have hn2 : mid ≠ n2 := by omega
  rw [Hw_block]
  refine Hw_loop J es.length ?_ ?_
  · rw [hJ]
    refine ⟨by simp, by simp [hn2, r5]; omega, by omega, [], [], 1, n1, by simp, by simp, by simp, by simp, ?_, by omega, by omega, by omega, ?_, by simp⟩
    · simp only [List.flatMap_nil, List.append_nil]
      have := p3.keep (h' := upd H2 n2 (.iter (some mid) clk [] clk)) (Nat.le_refl _) fun j _ hj => by simp [show ¬ j = n2 by omega, r2 j hj]
      simpa [usersOf] using this
    · simpa [usersOf] using p4
  · intro k env n h hI
    rw [hJ] at hI
    obtain ⟨fe, fh, hnn, ess, vs, a, b, t1, t2, t3, t4, t5, t6, t7, t8, t9, t10⟩ := hI
    simp only [FE_cons, FE_nil, FH_cons, FH_nil, and_true] at fe fh
    have hlen : ess.length = vs.length := by have := congrArg List.length t4; simpa using this
    have hcol : (usersOf l nm ++ vs.flatMap (usersOf l)).length ≤ 16 + 16 * 256 := by
      have := hfl vs
      simp only [List.length_append]; omega
    refine Hw_hide fun K6 hK6 => ?_
    rw [Hw_rg]
    refine ⟨n2, mid, clk, ess.map (·.2.2), es, fe.2.2, t1, fh.1, r7.lt, fun hq => ?_, fun e he hn => ?_⟩
    · simp +contextual -implicitDefEqProofs
      refine hK6 _ _ _ ?_
      refine Hw_hide fun K7 hK7 => ?_
      simp +contextual -implicitDefEqProofs
      refine hK4 _ _ _ ?_
      have hmem : ∀ u, u ∈ usersOf l nm ++ vs.flatMap (usersOf l) ↔ u ∈ usersL l nm := by
        intro u
        simp only [usersL, List.mem_append, List.mem_flatMap]
        have : ∀ y, y ∈ vs ↔ y ∈ insideS l nm := by
          intro y
          rw [inside_mem]
          constructor
          · intro hy
            have : AV.str y ∈ ess.map (·.1) := by rw [t4]; exact List.mem_map.2 ⟨y, hy, rfl⟩
            rw [List.mem_map] at this
            obtain ⟨e, he, h4⟩ := this
            obtain ⟨y', hy', hr⟩ := hkey e (t2 e he)
            rw [h4] at hy'
            rw [AV.str.inj hy']; exact hr
          · intro hr
            obtain ⟨e, he, h4⟩ := hall y hr
            have h5 := hq e he
            rw [List.mem_map] at h5
            obtain ⟨e', he', h6⟩ := h5
            have h7 : e' = e := inj_of_nodup r7.nd (t2 e' he') he h6
            subst h7
            have : e'.1 ∈ vs.map AV.str := by rw [← t4]; exact List.mem_map.2 ⟨e', he', rfl⟩
            rw [h4, List.mem_map] at this
            obtain ⟨y', hy', h8⟩ := this
            rw [← AV.str.inj h8]; exact hy'
        simp only [this]
      have hset : setI (usersOf l nm ++ vs.flatMap (usersOf l)) = usersS l nm := setI_eq hmem
      obtain ⟨wsS, q1, q2⟩ := T_Sort_own (n := n) t5 (by simp only [lenLim]; omega)
      obtain ⟨v', wsM, q3, ids, q4⟩ := T_Compact_own (n := n) q2 (by have : (sortI (usersOf l nm ++ vs.flatMap (usersOf l))).length = _ := List.length_mergeSort _; rw [this]; simp only [lenLim]; omega) (fun hh => by
        have : usersOf l nm ++ vs.flatMap (usersOf l) = [] := setI_nil.1 hh
        rw [this]; simp [sortI])
      have q5 : ansU (env 7) (setI (usersOf l nm ++ vs.flatMap (usersOf l))) = v := by
        rw [hset, ← hv, hcu]
        unfold ansU
        split
        · rename_i hz
          rw [← hset] at hz
          have h8 := t9 (setI_nil.1 hz)
          have : isNils (env 7) = isNils u := by
            rw [Bool.eq_iff_iff]
            have : ∀ w : AV, isNils w = true ↔ w = .nils := fun w => by cases w <;> simp [isNils]
            rw [this, this, h8]
          rw [this]
        · rfl
      simp +contextual -implicitDefEqProofs [callA_imp hS.1, hS.2, q1, callA_imp hM.1, hM.2, q3]
      rw [q4]
      exact q5
    · simp +contextual -implicitDefEqProofs
      refine hK6 _ _ _ ?_
      refine Hw_hide fun K7 hK7 => ?_
      simp +contextual -implicitDefEqProofs
      refine hK7 _ _ _ ?_
      rw [Hw_block]
      refine Hw_hide fun K8 hK8 => ?_
      rw [Hw_rg]
      refine ⟨n2, mid, clk, ess.map (·.2.2), e, es, by simp [fe], by simp, by simp [hn2, fh], he, r7.nd, ?_⟩
      obtain ⟨y, hy, hr⟩ := hkey e he
      simp +contextual -implicitDefEqProofs [hy]
      refine hK8 _ _ _ ?_
      obtain ⟨c, g1, g2⟩ := G_find_of hx hll y
      obtain ⟨u', gs', rfl, b1, b2, b3, b4⟩ := dGroup_inv g2
      have hyz : usersOf l y = ((fnd l y).getD z0).users := rfl
      have hyl := usersOf_le hs y
      have hH : ∀ j, j < n → j ≠ n2 → (upd (upd (upd h n2 (AO.iter (some mid) clk (List.map (fun x => x.snd.snd) ess ++ [e.snd.snd]) clk)) n (AO.row [[AV.str [], AV.nils, AV.nils]] false)) n (AO.row [[AV.str ((fnd l y).getD z0).name, u', gs']] false)) j = h j := fun j hj hne => by simp [hne, show ¬ j = n by omega]
      have hH2 : (upd (upd (upd h n2 (AO.iter (some mid) clk (List.map (fun x => x.snd.snd) ess ++ [e.snd.snd]) clk)) n (AO.row [[AV.str [], AV.nils, AV.nils]] false)) n (AO.row [[AV.str ((fnd l y).getD z0).name, u', gs']] false)) n2 = AO.iter (some mid) clk (List.map (fun x => x.snd.snd) ess ++ [e.snd.snd]) clk := by simp [show ¬ n2 = n by omega]
      simp +contextual -implicitDefEqProofs [fe, callA_fix hF, g1, dSl_fix hx, dSl_one b1, dSl_one b2]
      generalize (upd (upd (upd h n2 (AO.iter (some mid) clk (List.map (fun x => x.snd.snd) ess ++ [e.snd.snd]) clk)) n (AO.row [[AV.str [], AV.nils, AV.nils]] false)) n (AO.row [[AV.str ((fnd l y).getD z0).name, u', gs']] false)) = H3 at hH hH2
      have o3 := t5.keep (h' := H3) (Nat.le_refl _) fun j hj1 hj2 => hH j (by omega) (by omega)
      have hel := elsOf_ints (h := H3) b1
      rw [← hyz] at hel
      have hnew : ∀ b1 b2 : AV × AV × Nat, True := fun _ _ => trivial
      have hess1 : ∀ e' ∈ ess ++ [e], e' ∈ es := by
        intro e' he'
        rw [List.mem_append] at he'
        rcases he' with q | q
        · exact t2 e' q
        · simp at q; subst q; exact he
      have hess2 : ((ess ++ [e]).map (·.2.2)).Nodup := by
        rw [List.map_append, List.nodup_append]
        refine ⟨t3, by simp, fun x hx y hy => ?_⟩
        simp at hy; subst hy
        rintro rfl
        exact hn hx
      have hess3 : (ess ++ [e]).map (·.1) = (vs ++ [y]).map AV.str := by rw [List.map_append, List.map_append, t4]; simp [hy]
      have hle := nodup_len hess2 (b := es.map (·.2.2)) fun z hz => by
        rw [List.mem_map] at hz ⊢
        obtain ⟨e', he', q⟩ := hz
        exact ⟨e', hess1 e' he', q⟩
      simp only [List.length_map, List.length_append, List.length_cons, List.length_nil] at hle
      have hcol2 : usersOf l nm ++ (vs ++ [y]).flatMap (usersOf l) = (usersOf l nm ++ vs.flatMap (usersOf l)) ++ usersOf l y := by simp
      have hrow : rowI (usersOf l nm ++ (vs ++ [y]).flatMap (usersOf l)) = rowI (usersOf l nm ++ vs.flatMap (usersOf l)) ++ rowI (usersOf l y) := by rw [hcol2]; simp [rowI]
      by_cases hy0 : usersOf l y = []
      · have e3 := o3.append0 (n := n + 1) (x := u') (by rw [hel, hy0]; rfl)
        simp +contextual -implicitDefEqProofs [e3]
        rw [hJ]
        refine ⟨k - 1, by omega, by simp [fe], by simp [hH mid (by omega) hn2, fh]; omega, by omega, ess ++ [e], vs ++ [y], a, b, by simp [hH2], hess1, hess2, hess3, ?_, t6, by omega, t8, ?_, by simp; omega⟩
        · simp only [hcol2, hy0, List.append_nil]; simpa using o3
        · simp only [hcol2, hy0, List.append_nil]; simpa using t9
      · obtain ⟨v', ws, e3, o4, hnn2, hk⟩ := o3.growN (n := n + 1) (x := u') (by omega) hel (by simpa [rowI] using hy0) (by
          rw [rowI_len, rowI_len]; simp only [lenLim]; omega)
        simp +contextual -implicitDefEqProofs [e3]
        rw [hJ]
        refine ⟨k - 1, by omega, by simp [fe], ?_, by omega, ess ++ [e], vs ++ [y], n + 1, n + 1 + 1, ?_, hess1, hess2, hess3, ?_, by omega, by omega, by omega, ?_, by simp; omega⟩
        · simp only [FH_cons, FH_nil, and_true]
          exact ⟨by rw [hk mid (by omega) (o3.dies (by omega)), hH mid (by omega) hn2]; exact fh.1, by omega⟩
        · rw [hk n2 (by omega) (o3.dies (by omega)), hH2]; simp
        · rw [hrow]; simpa using o4
        · rw [hcol2]; intro q; simp [hy0] at q
end Go.Pv.T
