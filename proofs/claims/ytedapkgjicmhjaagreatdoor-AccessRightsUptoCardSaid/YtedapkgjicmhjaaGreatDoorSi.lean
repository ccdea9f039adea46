/- A part of the proof that AccessRights returns true wherever its input is of bulk at most 1048576: what the functions that it reaches answer. No theorem of the claim stands here. -/
import Derived.Test.YtedapkgjicmhjaaGreatDoorSh
import Derived.Test.YtedapkgjicmhjaaGreatDoorPvTyp
import Derived.Test.YtedapkgjicmhjaaGreatDoorCards
import Derived.Test.YtedapkgjicmhjaaGreatDoorTie
import Derived.WalkKit
import Derived.ProofKit
import Derived.OpenShut
import Derived.Carry
import Derived.Deep.DeepHandedRow
import Derived.LaidMore
import Derived.LaidOnce
import Derived.Lay
import Derived.SevenTiedAt
namespace Go.Pv.T
open Go Go.Pv Go.Proofs
set_option linter.unusedSimpArgs false
set_option linter.unusedVariables false
set_option maxRecDepth 100000

abbrev BK : Nat := 1048576
theorem LI_BK {k : Nat} (h : k ≤ BK) : k ≤ LI := by simp only [LI, BK] at *; omega
theorem ty_ints {n t : Nat} {xs : List AV} (hu : Tryz.prog.underlying t = some (.slice 3)) (h : Typed Tryz.prog (n + 2) t xs) (hb : bulkL xs ≤ BK) : ∃ x l, xs = [x] ∧ dInts x = some l ∧ l.length ≤ BK :=
  typed_slice (dec := dInt) hu (by kernel_rfl) (fun c b q => by rw [dInt_inv q]; simp) (fun c hc _ => by obtain ⟨i, rfl⟩ := typed_int Tryz.underlying3 hc; exact ⟨i, rfl⟩) h hb
theorem ty_strs {n t : Nat} {xs : List AV} (hu : Tryz.prog.underlying t = some (.slice 9)) (h : Typed Tryz.prog (n + 2) t xs) (hb : bulkL xs ≤ BK) : ∃ x l, xs = [x] ∧ dStrs x = some l ∧ l.length ≤ BK :=
  typed_slice (dec := dStr) hu (by kernel_rfl) (fun c b q => by rw [dStr_inv q]; simp) (fun c hc _ => by obtain ⟨i, rfl⟩ := typed_str Tryz.underlying9 hc; exact ⟨i, rfl⟩) h hb
theorem ty_group {n : Nat} {c : List AV} (h : Typed Tryz.prog (n + 3) 52 c) (hb : bulkL c ≤ BK) : ∃ g, dGroup c = some g := by
  have h := typed_struct Tryz.underlying52 h
  simp only [List.map_cons, List.map_nil, TypedFs] at h
  obtain ⟨a1, r1, rfl, h1, a2, r2, rfl, h2, a3, r3, rfl, h3, rfl⟩ := h
  obtain ⟨s, rfl⟩ := typed_str Tryz.underlying9 h1
  have b1 := bulkL_le2 [AV.str s] (a2 ++ (a3 ++ []))
  have b2 := bulkL_le1 a2 (a3 ++ [])
  have b3 := bulkL_le2 a2 (a3 ++ [])
  have b4 := bulkL_le1 a3 []
  obtain ⟨x, l, rfl, q1, q2⟩ := ty_ints Tryz.underlying42 h2 (by omega)
  obtain ⟨y, k, rfl, q3, q4⟩ := ty_strs Tryz.underlying38 h3 (by omega)
  exact ⟨⟨s, l, k⟩, by simp only [List.cons_append, List.nil_append, dGroup, q1, q3]; rw [if_pos ⟨LI_BK q2, LI_BK q4⟩]⟩
theorem ty_rule {n : Nat} {c : List AV} (h : Typed Tryz.prog (n + 2) 50 c) (hb : bulkL c ≤ BK) : ∃ r, dRule c = some r ∧ r.repo.length ≤ LI := by
  have h := typed_struct Tryz.underlying50 h
  simp only [List.map_cons, List.map_nil, TypedFs] at h
  obtain ⟨a1, r1, rfl, h1, a2, r2, rfl, h2, a3, r3, rfl, h3, a4, r4, rfl, h4, rfl⟩ := h
  obtain ⟨s1, rfl⟩ := typed_bool Tryz.underlying4 h1
  obtain ⟨s2, rfl⟩ := typed_str Tryz.underlying9 h2
  obtain ⟨s3, rfl⟩ := typed_str Tryz.underlying9 h3
  obtain ⟨s4, rfl⟩ := typed_str Tryz.underlying9 h4
  refine ⟨⟨s1, s2, s3, s4⟩, rfl, LI_BK ?_⟩
  simp [bulkL, bulk.bulkL, bulk] at hb
  show s3.length ≤ BK
  omega
theorem ty_policy {n : Nat} {xs : List AV} (h : Typed Tryz.prog (n + 6) 25 xs) (hb : bulkL xs ≤ BK) : ∃ p, dPolicy (.agg xs) = some p := by
  have h := typed_struct Tryz.underlying25 h
  simp only [List.map_cons, List.map_nil, TypedFs] at h
  obtain ⟨a1, r1, rfl, h1, a2, r2, rfl, h2, rfl⟩ := h
  have b1 := bulkL_le1 a1 (a2 ++ [])
  have b2 := bulkL_le2 a1 (a2 ++ [])
  have b3 := bulkL_le1 a2 []
  obtain ⟨x, l, rfl, q1, q2⟩ := typed_slice (dec := dGroup) (sz := 3) (B := BK) Tryz.underlying22 (by kernel_rfl) (fun c b q => by obtain ⟨u, gs, rfl, _⟩ := dGroup_inv q; simp) (fun c hc hbc => ty_group hc hbc) h1 (by omega)
  obtain ⟨y, k, rfl, q3, q4⟩ := typed_slice (dec := fun c => match dRule c with | some r => if r.repo.length ≤ LI then some r else none | none => none) (sz := 4) (B := BK) Tryz.underlying23 (by kernel_rfl) (fun c b q => by
      split at q
      · rename_i r hr; obtain rfl := dRule_inv hr; simp
      · cases q) (fun c hc hbc => by
      obtain ⟨r, hr, hl⟩ := ty_rule hc hbc
      exact ⟨r, by rw [hr]; simp [hl]⟩) h2 (by omega)
  have key : ∀ {es : List (List AV)} {k : List Rule}, seqO (fun c => match dRule c with | some r => if r.repo.length ≤ LI then some r else none | none => none) es = some k → seqO dRule es = some k ∧ ∀ r ∈ k, r.repo.length ≤ LI := by
    intro es
    induction es with
    | nil => intro k h; cases h; exact ⟨rfl, by simp⟩
    | cons e r ih =>
      intro k h
      simp only [seqO] at h
      split at h
      · rename_i a l' e1 e2
        cases h
        obtain ⟨i1, i2⟩ := ih e2
        split at e1
        · rename_i r' hr
          split at e1
          · rename_i hl
            cases e1
            exact ⟨by simp [seqO, hr, i1], by simpa using ⟨hl, i2⟩⟩
          · cases e1
        · cases e1
      · cases h
  have q5 : dRules y = some k ∧ ∀ r ∈ k, r.repo.length ≤ LI := by
    rcases dSl_inv q3 with ⟨rfl, rfl⟩ | ⟨es, f, rfl, q⟩
    · exact ⟨rfl, by simp⟩
    · obtain ⟨i1, i2⟩ := key q
      exact ⟨by simp [dSl, i1], i2⟩
  exact ⟨⟨l, k⟩, by simp only [List.cons_append, List.nil_append, dPolicy, q1, q5.1]; rw [if_pos ⟨LI_BK q2, LI_BK q4, q5.2⟩]⟩
end Go.Pv.T
namespace Go.Pv.T
open Go Go.Pv Go.Proofs Go.ChangeShapes Go.WideShapes Go.ChangeAt Go.RowKit Go.Proofs.YtedapkgjicmhjaaGreatDoor
set_option linter.unusedSimpArgs false
set_option linter.unusedVariables false
set_option maxRecDepth 100000

theorem typed_mono {P : Program} : ∀ (n : Nat) (t : TypeId) (xs : List AV), Typed P n t xs → Typed P (n + 1) t xs := by
  intro n
  induction n with
  | zero => intro t xs h; exact h.elim
  | succ n ih =>
    intro t xs h
    have hfs : ∀ (ts : List TypeId) (ys : List AV), TypedFs (Typed P n) ts ys → TypedFs (Typed P (n + 1)) ts ys := by
      intro ts
      induction ts with
      | nil => intro ys h; exact h
      | cons t r ih2 => intro ys h; obtain ⟨a, b, h1, h2, h3⟩ := h; exact ⟨a, b, h1, ih t a h2, ih2 b h3⟩
    rw [Typed] at h ⊢
    split at h <;> rename_i hu
    · exact h
    · exact h
    · exact h
    · exact h.imp id fun ⟨c, h1, h2⟩ => ⟨c, h1, ih _ _ h2⟩
    · rcases h with h | ⟨es, f, h1, h2⟩
      · exact .inl h
      · exact .inr ⟨es, f, h1, fun c hc => ih _ _ (h2 c hc)⟩
    · exact hfs _ _ h
    · exact hfs _ _ h
    · exact h
theorem typed_add {P : Program} {n : Nat} {t : TypeId} {xs : List AV} (h : Typed P n t xs) : ∀ k, Typed P (n + k) t xs := by
  intro k
  induction k with
  | zero => exact h
  | succ k ih => exact typed_mono _ _ _ ih
theorem upto_like {H : Type} : BulkLike (H := H) Rows.uptoBulk Rows.uptoBulkAll := by
  constructor
  · intro l; simp [Rows.uptoBulk]
  · intro l; cases l <;> simp [Rows.uptoBulk]
  · simp [Rows.uptoBulk]
  · intro d; simp [Rows.uptoBulk]
  · intro x y; simp [Rows.uptoBulk]
  · intro x; simp [Rows.uptoBulk]
  · simp [Rows.uptoBulkAll]
  · intro d r; simp [Rows.uptoBulkAll]
theorem plain25 : ∀ n, plainT Tryz.prog n 25 = true := by
  intro n
  rcases n with _ | _ | _ | _ | _ | n
  · rfl
  · kernel_rfl
  · kernel_rfl
  · kernel_rfl
  · kernel_rfl
  · have s3 : ∀ n, plainT Tryz.prog (n + 1) 3 = true := fun n => by simp only [plainT, Tryz.underlying3]
    have s9 : ∀ n, plainT Tryz.prog (n + 1) 9 = true := fun n => by simp only [plainT, Tryz.underlying9]
    have s4 : ∀ n, plainT Tryz.prog (n + 1) 4 = true := fun n => by simp only [plainT, Tryz.underlying4]
    have s42 : ∀ n, plainT Tryz.prog (n + 2) 42 = true := fun n => by
      rw [plainT]; simp only [Tryz.underlying42, s3, Bool.and_true]; kernel_rfl
    have s38 : ∀ n, plainT Tryz.prog (n + 2) 38 = true := fun n => by
      rw [plainT]; simp only [Tryz.underlying38, s9, Bool.and_true]; kernel_rfl
    have s52 : ∀ n, plainT Tryz.prog (n + 3) 52 = true := fun n => by
      rw [plainT]; simp only [Tryz.underlying52, List.all_cons, List.all_nil, s9, s42, s38, Bool.and_true]; kernel_rfl
    have s50 : ∀ n, plainT Tryz.prog (n + 3) 50 = true := fun n => by
      rw [plainT]; simp only [Tryz.underlying50, List.all_cons, List.all_nil, s9, s4, Bool.and_true]; kernel_rfl
    have s22 : ∀ n, plainT Tryz.prog (n + 4) 22 = true := fun n => by
      rw [plainT]; simp only [Tryz.underlying22, s52, Bool.and_true]; kernel_rfl
    have s23 : ∀ n, plainT Tryz.prog (n + 4) 23 = true := fun n => by
      rw [plainT]; simp only [Tryz.underlying23, s50, Bool.and_true]; kernel_rfl
    show plainT Tryz.prog ((n + 4) + 1) 25 = true
    rw [plainT]; simp only [Tryz.underlying25, List.all_cons, List.all_nil, s22, s23, Bool.and_true]; kernel_rfl
/-- What is read of a parameter is a policy. -/
theorem policy_of {H : Type} {enc : TypeId × Value → H} {W : World} {v : Value} {d : DataW H} {ps : List MemPlace} (h : DataW.Trod enc Tryz.prog W 0 (fun _ => true) true 25 v d ps) (hw : ∃ cs, v = .agg cs) (hb : Rows.uptoBulk d ≤ BK) :
    ∃ x p, V (J W) W phi0 x v ∧ dPolicy x = some p := by
  obtain ⟨n, h⟩ := h
  obtain ⟨xs, h1, h2, h3, h4⟩ := got upto_like n 25 _ _ (plain25 n) h
  obtain ⟨cs, rfl⟩ := hw
  obtain ⟨p, hp⟩ := ty_policy (n := n) (typed_add h3 6) (Nat.le_trans h4 hb)
  exact ⟨.agg xs, p, by have := V.of_list h1; simpa [Value.cells] using this, hp⟩
end Go.Pv.T
namespace Go.Pv.T
open Go Go.Pv Go.Proofs Go.ChangeShapes Go.WideShapes Go.ChangeAt Go.RowKit Go.Proofs.YtedapkgjicmhjaaGreatDoor
set_option linter.unusedSimpArgs false
set_option linter.unusedVariables false
set_option maxRecDepth 100000

theorem glNone {im : Nat → Prop} {w : World} : GlOK (fun _ => []) im w := fun g => .cptr [] _ (fun _ => undef) (fun h => absurd rfl h) (fun o ho => by simp at ho) (fun o ho => by simp at ho) (fun o ho => by simp at ho)
theorem law_contract (H : Type) (enc : TypeId × Value → H) (W : World) (base : Nat) (args : Array Value) (ds gs : List (DataW H)) (before : List MemPlace)
    (hval : ∀ (j : Nat) t v, Tryz.f3.params[j]? = some t → args[j]? = some v → Value.okWide Tryz.prog W .any base t v)
    (hW : DataW.Whole enc Tryz.prog Tryz.f3.params.toList Rows.accessRightsSpec.vars false W args.toList ds gs before) (hb : Rows.uptoBulkAll (ds ++ gs) ≤ BK) :
    Calls Tryz.prog 3 args W fun e W' => ∃ v, e = .returned v ∧ Rows.accessRightsSpec.post enc Tryz.prog Tryz.f3 false true false false W args v W' := by
  have hW' := hW
  obtain ⟨p, q, hA0, hV, rfl, hfz, hnd⟩ := hW
  have hA : DataW.TrodAll enc Tryz.prog W 0 (fun _ => true) true Tryz.f3.params.toList args.toList ds p := hA0
  rw [Tryz.params3] at hA hval
  obtain ⟨v0, vs0, d0, ds0, p0, q0, hargs, rfl, rfl, h0, r0⟩ := trodAll_cons hA
  obtain ⟨v1, vs1, d1, ds1, p1, q1, rfl, rfl, rfl, h1, r1⟩ := trodAll_cons r0
  obtain ⟨rfl, rfl, rfl⟩ := trodAll_nil r1
  obtain rfl : args = #[v0, v1] := by cases args; simp_all
  obtain ⟨rfl, rfl⟩ := trodVars_none hV
  have hb0 : Rows.uptoBulk d0 ≤ BK ∧ Rows.uptoBulk d1 ≤ BK := by
    simp [Rows.uptoBulkAll] at hb; omega
  obtain ⟨c0, hc0, -⟩ := okWide_struct Tryz.underlying25 (hval 0 25 v0 rfl rfl)
  obtain ⟨c1, hc1, -⟩ := okWide_struct Tryz.underlying25 (hval 1 25 v1 rfl rfl)
  obtain ⟨x0, P0, k0, k1⟩ := policy_of h0 ⟨c0, hc0⟩ hb0.1
  obtain ⟨x1, P1, k2, k3⟩ := policy_of h1 ⟨c1, hc1⟩ hb0.2
  have hps := ps_AccessRights [x0, x1] (.bool true) (by simp only [G_AccessRights, k1, k3]) (J W) W [v0, v1] (fun b hb => hb) glNone (.cons k0 (.cons k2 VL.nil))
  have hen : (callFunc i_law44_AccessRights [v0, v1].toArray).run Tryz.prog W = .ok (.enter i_law44_AccessRights [v0, v1].toArray) W := Go.Proofs.enters_of (fn := Tryz.f3) (by kernel_rfl) (by kernel_rfl) (by rfl) _ _
  rw [hen] at hps
  simp only [Ends] at hps
  refine Calls.mono hps fun e W' ⟨v, he, im', hbel, _, _, hv⟩ => ?_
  cases hv
  have hlt := hW'.lt
  have hl : laidOutB Tryz.prog = true := by kernel_rfl
  have hr : Tryz.prog.readableRec 25 = true := by kernel_rfl
  have hrow : (25 : Nat) < Tryz.prog.types.size := of_decide_eq_true (by kernel_rfl)
  have t0 := Below.trod hl hr hrow h0 hbel fun x hx => hlt x (by simp [hx])
  have t1 := Below.trod hl hr hrow h1 hbel fun x hx => hlt x (by simp [hx])
  refine ⟨_, he, ?_⟩
  refine ⟨[d0, d1], [], p0 ++ (p1 ++ []) ++ [], [], p0 ++ (p1 ++ []), [], hW', ?_, ?_, ?_, hbel.frame _, fun h => by cases h⟩
  · exact trodAll_cons_mk (shut_bool Tryz.underlying4 _) trodAll_mk0
  · rw [Tryz.params3]
    exact trodAll_cons_mk t0 (trodAll_cons_mk t1 trodAll_mk0)
  · exact rfl
end Go.Pv.T
namespace Go.Pv.T
open Go Go.Pv Go.Proofs Go.ChangeShapes Go.WideShapes Go.ChangeAt Go.RowKit Go.Proofs.YtedapkgjicmhjaaGreatDoor
set_option linter.unusedSimpArgs false
set_option linter.unusedVariables false
set_option maxRecDepth 100000

def wP : Value := .agg #[.slice none 0 0, .slice none 0 0]
theorem own : ownKnob Tryz.prog.godebug = none := by kernel_rfl
theorem laid_met (os : Os) : laidMetH Tryz.prog Rows.accessRightsUptoRow.laid ((World.laidAll Tryz.prog os Rows.accessRightsUptoRow.laid).forCall (fun _ _ => 0) ⟨#[], #[wP, wP], []⟩).memory :=
  by rw [MakeChecks.laidMetH_plain _ _ _ (by kernel_rfl)]; exact laidMet_laidAll _ (by kernel_rfl) (by kernel_rfl)
theorem reads (os : Os) {H : Type} (enc : TypeId × Value → H) : ∃ places, DataW.whole enc Tryz.prog ((World.laidAll Tryz.prog os Rows.accessRightsUptoRow.laid).forCall (fun _ _ => 0) ⟨#[], #[wP, wP], []⟩).memory Tryz.f3.params.toList Rows.accessRightsSpec.vars false #[wP, wP].toList 8 = some ([.agg [.nil, .nil], .agg [.nil, .nil]], [], places) :=
  ⟨[], by kernel_rfl⟩
theorem liftedUpto (os : Os) (started : os.Started) (H : Type) (enc : TypeId × Value → H) (F : Stop.Interp) :
    ReturnsInHanded {} Tryz.checked os 3 .any ((Rows.OpenSpec.upto Rows.accessRightsSpec).preRow enc Tryz.prog Tryz.f3 Rows.accessRightsUptoRow.domain false Rows.accessRightsUptoRow.laid) (((Rows.OpenSpec.upto Rows.accessRightsSpec).at F).post enc Tryz.prog Tryz.f3 false true false false) := by
  obtain ⟨places, hx⟩ := reads os enc
  refine returnsInHanded_of_row (C := Tryz.checked) (s := Rows.OpenSpec.upto Rows.accessRightsSpec) own started (by kernel_rfl) Tryz.func3
    (witness_row_at (enc := enc) (C := Tryz.checked) false (World.laidAll Tryz.prog os Rows.accessRightsUptoRow.laid) #[wP, wP] (World.laidAll_os _ _ _) (by kernel_rfl) (by kernel_rfl) (by kernel_rfl)
      (OpenSpec.preRow_of_cond 8 hx (by kernel_rfl) (fun k hk => by cases hk; kernel_rfl) (by kernel_rfl) (laid_met os))) ?_
  intro W base args ds gs before hval hW _ hcond _ hL _ _
  exact law_contract H enc W base args ds gs before hval hW (by have := hcond _ rfl; simpa [Rows.uptoSmall] using this)
theorem saidUpto : Rows.AccessRightsUptoSaid :=
  OpenClaim.holds_of_cond 3 Tryz.f3 rfl rfl rfl rfl rfl rfl rfl ⟨rfl, rfl, rfl, rfl, rfl⟩ rfl rfl rfl rfl rfl (by kernel_rfl) Tryz.func3 (by kernel_rfl)
    (of_decide_eq_true (by kernel_rfl)) (by unfold Func.isWrapper; first | (rw [if_pos (by decide +kernel)]; kernel_rfl) | (rw [if_neg (by decide +kernel)]; exact ⟨rfl, rfl⟩))
    (fun os started H enc _ F => by rw [OpenClaim.pre_eq_preRow]; exact liftedUpto os started H enc F)
end Go.Pv.T
namespace Go.Pv.T
open Go Go.Pv Go.Proofs Go.ChangeShapes Go.WideShapes Go.ChangeAt Go.RowKit Go.Proofs.YtedapkgjicmhjaaGreatDoor
set_option linter.unusedSimpArgs false
set_option linter.unusedVariables false
set_option maxRecDepth 100000
theorem plain (f : FuncId) (fn : Func) (hf : Tryz.pinned.checked.prog.funcNamed "codesearch/codesearchlaw44.AccessRights" = some f) (hfn : Tryz.pinned.checked.prog.funcs[f]? = some fn) :
    false = Tryz.pinned.checked.prog.looks [] ∧ ∀ (j : Nat) t, fn.params[j]? = some t → Tryz.pinned.checked.prog.wantsStandIn t = false := by
  obtain rfl : f = 3 := Option.some.inj ((show Tryz.prog.funcNamed "codesearch/codesearchlaw44.AccessRights" = some 3 by kernel_rfl).symm.trans hf) |>.symm
  obtain rfl : fn = Tryz.f3 := (Option.some.inj (Tryz.func3.symm.trans hfn)).symm
  refine ⟨by kernel_rfl, fun j t ht => ?_⟩
  rw [Tryz.params3] at ht
  obtain rfl : t = 25 := by have := Array.mem_of_getElem? ht; simpa using this
  exact (show Tryz.prog.wantsStandIn 25 = false by kernel_rfl)
theorem card : Rows.AccessRightsUptoCardSaid :=
  Claim7.holds_tied_plain_at .later [] _ _ _ _ saidUpto (fun _ h => by cases h) (by kernel_rfl) (fun _ h => by cases h) accessRightsUpto_row_tie rfl ⟨rfl, rfl⟩ (by kernel_rfl) rfl plain (by kernel_rfl)
end Go.Pv.T
