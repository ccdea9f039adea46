/- A part of the proof that AccessRights returns true wherever its input is of bulk at most 1048576: what the functions that it reaches answer. No theorem of the claim stands here. -/
import Derived.Test.YtedapkgjicmhjaaGreatDoorSg
import Derived.Test.YtedapkgjicmhjaaGreatDoorT44F
import Derived.Test.YtedapkgjicmhjaaGreatDoorPvExt
import Derived.Test.YtedapkgjicmhjaaGreatDoorT44M
namespace Go.Pv.T
open Go Go.Pv
set_option linter.unusedSimpArgs false
set_option linter.unusedVariables false
set_option maxRecDepth 100000
theorem w_strings_Split {C : Ctx} (hG : C.TP i_strings_genSplit = some G_genSplit) (s : List UInt8) (c : UInt8) (hs : s.length ≤ 1000000) :
    FnW C c_strings_Split r_strings_Split [.str s, .str [c]] (.lst 1 ((splitB c s).map fun p => [.str p]) true) := by
  unfold FnW c_strings_Split r_strings_Split
  generalize hv : AV.lst 1 ((splitB c s).map fun p => [.str p]) true = v
  simp +contextual -implicitDefEqProofs [callA_fix hG, G_genSplit, hs]
  exact hv
theorem aInt_inv {y : AV} {b : Int} (h : aInt y = some b) : y = .int .i64 b := by
  unfold aInt at h
  split at h
  · cases h; rfl
  · cases h
theorem aStr_inv {y : AV} {b : List UInt8} (h : aStr y = some b) : y = .str b := by
  unfold aStr at h
  split at h
  · cases h; rfl
  · cases h
theorem ref02_set_ok {C : Ctx} (args : List AV) (v : AV) (h : G_ref02_set args = some v) : FnW C c_ref02_set r_ref02_set args v := by
  unfold G_ref02_set at h
  split at h
  · rename_i g a
    split at h
    · rename_i hc
      obtain ⟨h1, h2, h3, h4⟩ := hc
      cases h
      have hlt : a.toNat < g.length := by omega
      have := w_ref02_set (C := C) g a.toNat h1 hlt (by rw [List.getElem?_eq_getElem hlt] at h4; simpa using h4)
      rwa [show ((a.toNat : Nat) : Int) = a by omega] at this
    · cases h
  · cases h
theorem group_one_ok {C : Ctx} (hV : C.TP i_glob_ValidPath = some G_vp) (hK : C.TP i_strings_Contains = some G_Contains1) (hF : C.TP i_group_find = some G_find) (hI : C.TP i_slices_Contains_Lint_int = some (inG dInts aInt)) (hT : C.TP i_slices_Contains_Lstring_string = some (inG dStrs aStr)) (args : List AV) (v : AV) (h : G_one args = some v) : FnW C c_group_one r_group_one args v := by
  unfold G_one at h
  split at h
  · rename_i x i
    split at h
    · rename_i l hx
      split at h
      · rename_i g hg
        split at h
        · rename_i hc
          cases h
          obtain ⟨hlt, rfl⟩ := List.getElem?_eq_some_iff.1 hg
          have := w_group_one hV hK hF hI hT hx hc.1 hlt
          rwa [show ((i.toNat : Nat) : Int) = i by omega] at this
        · cases h
      · cases h
    · cases h
  · cases h
theorem seqO_strs : ∀ {es : List (List AV)} {l : List Nm}, seqO dStr es = some l → es = l.map eS := by
  intro es
  induction es with
  | nil => intro l h; cases h; rfl
  | cons e r ih =>
    intro l h
    simp only [seqO] at h
    split at h
    · rename_i a l' h1 h2
      cases h
      rw [ih h2, dStr_inv h1]; rfl
    · cases h
theorem below_ok {C : Ctx} (hA : C.TP i_ref43_at = some G_at) (hP : C.TP i_ref26_PutText = some G_PutText) (args : List AV) (v : AV) (h : G_below args = some v) : FnW C c_ref43_below r_ref43_below args v := by
  unfold G_below at h
  split at h
  · rename_i x es b
    split at h
    · rename_i l o hx ho
      split at h
      · rename_i hc
        cases h
        have := w_ref43_below hA hP hx hc.1 hc.2 b
        rwa [bS, ← seqO_strs ho] at this
      · cases h
    · cases h
  · cases h
noncomputable def K0 : Ctx := Ctx.base Go.Proofs.Tryz.prog fun _ => []
theorem g0 : Good K0 := Good.base _ (by kernel_rfl)
noncomputable def K1 : Ctx := K0.addP i_bytealg_CountString countF
theorem g1 : Good K1 := ⟨g0.tab.addP (count_PS (fn := Go.Proofs.Tryz.f99) (by kernel_rfl) (by kernel_rfl) (by kernel_rfl) (by kernel_rfl) (by kernel_rfl)), g0.ord⟩
noncomputable def K2 : Ctx := K1.addP i_bytealg_IndexByteString indexByteF
theorem g2 : Good K2 := ⟨g1.tab.addP (indexByte_PS (fn := Go.Proofs.Tryz.f95) (by kernel_rfl) (by kernel_rfl) (by kernel_rfl) (by kernel_rfl) (by kernel_rfl)), g1.ord⟩
noncomputable def K3 : Ctx := K2.addP i_glob_letter G_glob_letter
theorem g3 : Good K3 := g2.addP x_glob_letter G_glob_letter fun args v h => by
  unfold G_glob_letter at h
  (repeat' split at h) <;> first | (cases h; done) | (cases h; exact w_glob_letter _)
noncomputable def K4 : Ctx := K3.addP i_ref02_Letter G_ref02_Letter
theorem g4 : Good K4 := g3.addP x_ref02_Letter G_ref02_Letter fun args v h => by
  unfold G_ref02_Letter at h
  (repeat' split at h) <;> first | (cases h; done) | (cases h; exact w_ref02_Letter _)
noncomputable def K5 : Ctx := K4.addP i_ref02_Digit G_ref02_Digit
theorem g5 : Good K5 := g4.addP x_ref02_Digit G_ref02_Digit fun args v h => by
  unfold G_ref02_Digit at h
  (repeat' split at h) <;> first | (cases h; done) | (cases h; exact w_ref02_Digit _)
noncomputable def K6 : Ctx := K5.addP i_ref02_name G_ref02_name
theorem g6 : Good K6 := g5.addP x_ref02_name G_ref02_name fun args v h => by
  unfold G_ref02_name at h
  (repeat' split at h) <;> first | (cases h; done) | (cases h; exact w_ref02_name (by kernel_rfl) (by kernel_rfl) _ ‹_›)
noncomputable def K7 : Ctx := K6.addP i_stringslite_IndexByte indexByteF
theorem g7 : Good K7 := g6.addP x_stringslite_IndexByte indexByteF fun args v h => by
  unfold indexByteF at h
  (repeat' split at h) <;> first | (cases h; done) | (cases h; exact w_stringslite_IndexByte (by kernel_rfl) _ _)
noncomputable def K8 : Ctx := K7.addP i_strings_IndexByte indexByteF
theorem g8 : Good K8 := g7.addP x_strings_IndexByte indexByteF fun args v h => by
  unfold indexByteF at h
  (repeat' split at h) <;> first | (cases h; done) | (cases h; exact w_strings_IndexByte (by kernel_rfl) _ _)
noncomputable def K9 : Ctx := K8.addP i_stringslite_Index G_Index
theorem g9 : Good K9 := g8.addP x_stringslite_Index G_Index fun args v h => by
  unfold G_Index at h
  (repeat' split at h) <;> first | (cases h; done) | (cases h; exact w_stringslite_Index (by kernel_rfl) _ _)
noncomputable def K10 : Ctx := K9.addP i_strings_Index G_Index
theorem g10 : Good K10 := g9.addP x_strings_Index G_Index fun args v h => by
  unfold G_Index at h
  (repeat' split at h) <;> first | (cases h; done) | (cases h; exact w_strings_Index (by kernel_rfl) _ _)
noncomputable def K11 : Ctx := K10.addP i_strings_Contains G_Contains1
theorem g11 : Good K11 := g10.addP x_strings_Contains G_Contains1 fun args v h => by
  unfold G_Contains1 at h
  (repeat' split at h) <;> first | (cases h; done) | (cases h; exact w_strings_Contains (by kernel_rfl) _ _)
noncomputable def K12 : Ctx := K11.addP i_strings_Count G_Count1
theorem g12 : Good K12 := g11.addP x_strings_Count G_Count1 fun args v h => by
  unfold G_Count1 at h
  (repeat' split at h) <;> first | (cases h; done) | (cases h; exact w_strings_Count (by kernel_rfl) _ _)
noncomputable def K13 : Ctx := K12.addP i_stringslite_HasPrefix G_HasPrefix
theorem g13 : Good K13 := g12.addP x_stringslite_HasPrefix G_HasPrefix fun args v h => by
  unfold G_HasPrefix at h
  (repeat' split at h) <;> first | (cases h; done) | (cases h; exact w_stringslite_HasPrefix _ _)
noncomputable def K14 : Ctx := K13.addP i_strings_HasPrefix G_HasPrefix
theorem g14 : Good K14 := g13.addP x_strings_HasPrefix G_HasPrefix fun args v h => by
  unfold G_HasPrefix at h
  (repeat' split at h) <;> first | (cases h; done) | (cases h; exact w_strings_HasPrefix (by kernel_rfl) _ _)
noncomputable def K15 : Ctx := K14.addP i_strings_genSplit G_genSplit
theorem g15 : Good K15 := g14.addP x_strings_genSplit G_genSplit fun args v h => by
  unfold G_genSplit at h
  (repeat' split at h) <;> first | (cases h; done) | (cases h; exact w_strings_genSplit (by kernel_rfl) (by kernel_rfl) _ _ ‹_›)
noncomputable def K16 : Ctx := K15.addP i_strings_Split G_Split1
theorem g16 : Good K16 := g15.addP x_strings_Split G_Split1 fun args v h => by
  unfold G_Split1 at h
  (repeat' split at h) <;> first | (cases h; done) | (cases h; exact w_strings_Split (by kernel_rfl) _ _ ‹_›)
noncomputable def K17 : Ctx := K16.addP i_ref44_SameInts (eqG dInts)
theorem g17 : Good K17 := g16.addP x_ref44_SameInts (eqG dInts) fun args v h => by
  unfold eqG at h
  (repeat' split at h) <;> first | (cases h; done) | (cases h; exact w_ref44_SameInts ‹_› ‹_› ‹_›)
noncomputable def K18 : Ctx := K17.addP i_slices_Equal_Lint_int (eqG dInts)
theorem g18 : Good K18 := g17.addP x_slices_Equal_Lint_int (eqG dInts) fun args v h => by
  unfold eqG at h
  (repeat' split at h) <;> first | (cases h; done) | (cases h; exact w_slices_Equal_Lint_int ‹_› ‹_› ‹_›)
noncomputable def K19 : Ctx := K18.addP i_slices_Equal_Lstring_string (eqG dStrs)
theorem g19 : Good K19 := g18.addP x_slices_Equal_Lstring_string (eqG dStrs) fun args v h => by
  unfold eqG at h
  (repeat' split at h) <;> first | (cases h; done) | (cases h; exact w_slices_Equal_Lstring_string ‹_› ‹_› ‹_›)
noncomputable def K20 : Ctx := K19.addP i_ref44_sameTexts (eqG dStrs)
theorem g20 : Good K20 := g19.addP x_ref44_sameTexts (eqG dStrs) fun args v h => by
  unfold eqG at h
  (repeat' split at h) <;> first | (cases h; done) | (cases h; exact w_ref44_sameTexts ‹_› ‹_› ‹_›)
noncomputable def K21 : Ctx := K20.addP i_slices_Index_Lint_int (ixG dInts aInt)
theorem g21 : Good K21 := g20.addP x_slices_Index_Lint_int (ixG dInts aInt) fun args v h => by
  unfold ixG at h
  split at h
  · split at h
    · split at h
      · cases h
        obtain rfl := aInt_inv ‹aInt _ = some _›
        exact w_slices_Index_Lint_int _ ‹_› ‹_›
      · cases h
    · cases h
  · cases h
noncomputable def K22 : Ctx := K21.addP i_slices_Index_Lstring_string (ixG dStrs aStr)
theorem g22 : Good K22 := g21.addP x_slices_Index_Lstring_string (ixG dStrs aStr) fun args v h => by
  unfold ixG at h
  split at h
  · split at h
    · split at h
      · cases h
        obtain rfl := aStr_inv ‹aStr _ = some _›
        exact w_slices_Index_Lstring_string _ ‹_› ‹_›
      · cases h
    · cases h
  · cases h
noncomputable def K23 : Ctx := K22.addP i_ref05_In (inG dInts aInt)
theorem g23 : Good K23 := g22.addP x_ref05_In (inG dInts aInt) fun args v h => by
  unfold inG at h
  split at h
  · split at h
    · split at h
      · cases h
        obtain rfl := aInt_inv ‹aInt _ = some _›
        exact w_ref05_In _ ‹_› ‹_›
      · cases h
    · cases h
  · cases h
noncomputable def K24 : Ctx := K23.addP i_ref43_inText (inG dStrs aStr)
theorem g24 : Good K24 := g23.addP x_ref43_inText (inG dStrs aStr) fun args v h => by
  unfold inG at h
  split at h
  · split at h
    · split at h
      · cases h
        obtain rfl := aStr_inv ‹aStr _ = some _›
        exact w_ref43_inText _ ‹_› ‹_›
      · cases h
    · cases h
  · cases h
noncomputable def K25 : Ctx := K24.addP i_slices_Contains_Lint_int (inG dInts aInt)
theorem g25 : Good K25 := g24.addP x_slices_Contains_Lint_int (inG dInts aInt) fun args v h => by
  unfold inG at h
  split at h
  · split at h
    · split at h
      · cases h
        obtain rfl := aInt_inv ‹aInt _ = some _›
        exact w_slices_Contains_Lint_int (by kernel_rfl) _ ‹_› ‹_›
      · cases h
    · cases h
  · cases h
noncomputable def K26 : Ctx := K25.addP i_slices_Contains_Lstring_string (inG dStrs aStr)
theorem g26 : Good K26 := g25.addP x_slices_Contains_Lstring_string (inG dStrs aStr) fun args v h => by
  unfold inG at h
  split at h
  · split at h
    · split at h
      · cases h
        obtain rfl := aStr_inv ‹aStr _ = some _›
        exact w_slices_Contains_Lstring_string (by kernel_rfl) _ ‹_› ‹_›
      · cases h
    · cases h
  · cases h
noncomputable def K27 : Ctx := K26.addP i_access_sameGroup G_sameGroup
theorem g27 : Good K27 := g26.addP x_access_sameGroup G_sameGroup fun args v h => by
  unfold G_sameGroup at h
  (repeat' split at h) <;> first | (cases h; done) | (cases h; exact w_access_sameGroup (by kernel_rfl) (by kernel_rfl) ‹_› ‹_›)
noncomputable def K28 : Ctx := K27.addP i_slices_EqualFunc_LGroup_LGroup_Group_Group G_EqualFunc_Group
theorem g28 : Good K28 := g27.addP x_slices_EqualFunc_LGroup_LGroup_Group_Group G_EqualFunc_Group fun args v h => by
  unfold G_EqualFunc_Group at h
  split at h
  · split at h
    · rename_i hf
      subst hf
      simp only [eqG] at h
      (repeat' split at h) <;> first | (cases h; done) | (cases h; exact w_slices_EqualFunc (by kernel_rfl) ‹_› ‹_› ‹_›)
    · cases h
  · cases h
noncomputable def K29 : Ctx := K28.addP i_slices_Equal_LRule_Rule (eqG dRules)
theorem g29 : Good K29 := g28.addP x_slices_Equal_LRule_Rule (eqG dRules) fun args v h => by
  unfold eqG at h
  (repeat' split at h) <;> first | (cases h; done) | (cases h; exact w_slices_Equal_rules ‹_› ‹_› ‹_›)
noncomputable def K30 : Ctx := K29.addP i_access_Same G_Same
theorem g30 : Good K30 := g29.addP x_access_Same G_Same fun args v h => by
  unfold G_Same at h
  (repeat' split at h) <;> first | (cases h; done) | (cases h; exact w_access_Same (by kernel_rfl) (by kernel_rfl) ‹_› ‹_›)
noncomputable def K31 : Ctx := K30.addP i_group_find G_find
theorem g31 : Good K31 := g30.addP x_group_find G_find fun args v h => by
  unfold G_find at h
  split at h
  · split at h
    · rw [Option.ite_none_right_eq_some] at h
      rw [← Option.some.inj h.2]
      exact w_group_find _ ‹_› h.1
    · cases h
  · cases h
noncomputable def K32 : Ctx := K31.addP i_ref43_at G_at
theorem g32 : Good K32 := g31.addP x_ref43_at G_at fun args v h => by
  unfold G_at at h
  (repeat' split at h) <;> first | (cases h; done) | (cases h; exact w_ref43_at _ ‹_› ‹_›)
noncomputable def K33 : Ctx := K32.addP i_glob_printable G_printable
theorem g33 : Good K33 := g32.addP x_glob_printable G_printable fun args v h => by
  unfold G_printable at h
  (repeat' split at h) <;> first | (cases h; done) | (cases h; exact w_glob_printable _ ‹_›)
noncomputable def K34 : Ctx := K33.addP i_ref02_last G_last
theorem g34 : Good K34 := g33.addP x_ref02_last G_last fun args v h => by
  unfold G_last at h
  (repeat' split at h) <;> first | (cases h; done) | (cases h; exact w_ref02_last _ _ ‹_›)
noncomputable def K35 : Ctx := K34.addP i_ref02_ValidPath G_vp
theorem g35 : Good K35 := g34.addP x_ref02_ValidPath G_vp fun args v h => by
  unfold G_vp at h
  (repeat' split at h) <;> first | (cases h; done) | (cases h; exact w_ref02_ValidPath (by kernel_rfl) _)
noncomputable def K36 : Ctx := K35.addP i_glob_ValidPath G_vp
theorem g36 : Good K36 := g35.addP x_glob_ValidPath G_vp fun args v h => by
  unfold G_vp at h
  (repeat' split at h) <;> first | (cases h; done) | (cases h; exact w_glob_ValidPath (by kernel_rfl) (by kernel_rfl) _)
noncomputable def K37 : Ctx := K36.addP i_ref02_Simple G_simple
theorem g37 : Good K37 := g36.addP x_ref02_Simple G_simple fun args v h => by
  unfold G_simple at h
  (repeat' split at h) <;> first | (cases h; done) | (cases h; exact w_ref02_Simple (by kernel_rfl) (by kernel_rfl) _)
noncomputable def K38 : Ctx := K37.addP i_ref44_name G_nm44
theorem g38 : Good K38 := g37.addP x_ref44_name G_nm44 fun args v h => by
  unfold G_nm44 at h
  (repeat' split at h) <;> first | (cases h; done) | (cases h; exact w_ref44_name (by kernel_rfl) _ ‹_›)
noncomputable def K39 : Ctx := K38.addP i_glob_set G_glob_set
theorem g39 : Good K39 := g38.addP x_glob_set G_glob_set fun args v h => by
  unfold G_glob_set at h
  (repeat' split at h) <;> first | (cases h; done) | (cases h; exact w_glob_set _ ‹_›)
noncomputable def K40 : Ctx := K39.addP i_glob_parse G_glob_parse
theorem g40 : Good K40 := g39.addP x_glob_parse G_glob_parse fun args v h => by
  unfold G_glob_parse at h
  (repeat' split at h) <;> first | (cases h; done) | (cases h; exact w_glob_parse (by kernel_rfl) (by kernel_rfl) (by kernel_rfl) (by kernel_rfl) _ ‹_›)
noncomputable def K41 : Ctx := K40.addP i_glob_Right G_glob_Right
theorem g41 : Good K41 := g40.addP x_glob_Right G_glob_Right fun args v h => by
  unfold G_glob_Right at h
  (repeat' split at h) <;> first | (cases h; done) | (cases h; exact w_glob_Right (by kernel_rfl) _)
noncomputable def K42 : Ctx := K41.addP i_ref02_set G_ref02_set
theorem g42 : Good K42 := g41.addP x_ref02_set G_ref02_set fun args v h => by
  exact ref02_set_ok args v h
noncomputable def K43 : Ctx := K42.addP i_ref02_elems G_ref02_elems
theorem g43 : Good K43 := g42.addP x_ref02_elems G_ref02_elems fun args v h => by
  unfold G_ref02_elems at h
  (repeat' split at h) <;> first | (cases h; done) | (cases h; exact w_ref02_elems (by kernel_rfl) _ (And.left ‹_›) (And.right ‹_›))
noncomputable def K44 : Ctx := K43.addP i_ref02_Right G_glob_Right
theorem g44 : Good K44 := g43.addP x_ref02_Right G_glob_Right fun args v h => by
  unfold G_glob_Right at h
  (repeat' split at h) <;> first | (cases h; done) | (cases h; exact w_ref02_Right (by kernel_rfl) _)
noncomputable def K45 : Ctx := K44.addP i_ref43_members G_members
theorem g45 : Good K45 := g44.addP x_ref43_members G_members fun args v h => by
  unfold G_members at h
  (repeat' split at h) <;> first | (cases h; done) | (cases h; exact w_ref43_members (by kernel_rfl) (by kernel_rfl) (by kernel_rfl) ‹_› ‹_› ‹_›)
noncomputable def K46 : Ctx := K45.addP i_group_one G_one
theorem g46 : Good K46 := g45.addP x_group_one G_one fun args v h => by
  exact group_one_ok (by kernel_rfl) (by kernel_rfl) (by kernel_rfl) (by kernel_rfl) (by kernel_rfl) args v h
noncomputable def K47 : Ctx := K46.addP i_ref26_PutText G_PutText
theorem g47 : Good K47 := g46.addP x_ref26_PutText G_PutText fun args v h => by
  unfold G_PutText at h
  (repeat' split at h) <;> first | (cases h; done) | (cases h; exact w_ref26_PutText _ ‹_› ‹_›)
noncomputable def K48 : Ctx := K47.addP i_ref43_below G_below
theorem g48 : Good K48 := g47.addP x_ref43_below G_below fun args v h => by
  exact below_ok (by kernel_rfl) (by kernel_rfl) args v h
noncomputable def K49 : Ctx := K48.addP i_ref43_inside G_inside
theorem g49 : Good K49 := g48.addP x_ref43_inside G_inside fun args v h => by
  unfold G_inside at h
  (repeat' split at h) <;> first | (cases h; done) | (cases h; exact w_ref43_inside (by kernel_rfl) (by kernel_rfl) (by kernel_rfl) ‹_› ‹_› _)
end Go.Pv.T
namespace Go.Pv.T
open Go Go.Pv
set_option linter.unusedSimpArgs false
set_option linter.unusedVariables false
set_option maxRecDepth 100000

theorem dep0 {C : Ctx} (hA : C.TP i_ref43_at = some G_at) (args : List AV) (v : AV) (h : G_dep 0 args = some v) : FnW C c_ref43_depth r_ref43_depth args v := by
  unfold G_dep at h
  split at h
  · rename_i x nm
    split at h
    · rename_i l hx
      split at h
      · rename_i hc
        obtain ⟨hs, hac, hk⟩ := hc
        simp only [Option.some.injEq] at h
        have hk : fnd l nm = none := hk.resolve_right (Nat.not_lt_zero _)
        unfold FnW c_ref43_depth r_ref43_depth
        have hll : l.length ≤ LI := by have := hs.1; simp only [LI]; omega
        have hG : G_at [x, .str nm] = some (.int .i64 (ixOf (fun y => y.name == nm) l)) := by simp only [G_at, hx]; rw [if_pos hll]
        rcases ix_cases l nm with ⟨k1, k2⟩ | ⟨p, hp, k1, k2⟩
        · rw [k1] at hG
          simp +contextual -implicitDefEqProofs [callA_fix hA, dSl_fix hx, hG]
          rw [← h, depth_none k2]; rfl
        · rw [k2] at hk; cases hk
      · cases h
    · cases h
  · cases h
noncomputable def depC (C : Ctx) : Nat → Ctx
  | 0 => C.addP i_ref43_depth (G_dep 0)
  | k + 1 => (depC C k).addP i_ref43_depth (G_dep (k + 1))
theorem depC_P {C : Ctx} (hA : C.TP i_ref43_at = some G_at) : ∀ k, (depC C k).P = C.P ∧ (depC C k).TP i_ref43_at = some G_at ∧ (depC C k).TP i_ref43_depth = some (G_dep k) := by
  intro k
  induction k with
  | zero => exact ⟨rfl, hA, rfl⟩
  | succ k ih => exact ⟨ih.1, ih.2.1, rfl⟩
theorem depC_good {C : Ctx} (g : Good C) (hf : Fx C.P i_ref43_depth c_ref43_depth r_ref43_depth) (hA : C.TP i_ref43_at = some G_at) : ∀ k, Good (depC C k) := by
  intro k
  induction k with
  | zero => exact g.addP hf (G_dep 0) (dep0 hA)
  | succ k ih =>
    obtain ⟨h1, h2, h3⟩ := depC_P hA k
    refine ih.addP (by rw [h1]; exact hf) (G_dep (k + 1)) fun args v h => ?_
    unfold G_dep at h
    (repeat' split at h) <;> first | (cases h; done) | skip
    rename_i hc
    cases h
    exact w_ref43_depth h2 h3 ‹_› hc.1 hc.2.1 _ hc.2.2
noncomputable def K50 : Ctx := depC K49 17
theorem g50 : Good K50 := depC_good g49 x_ref43_depth (by kernel_rfl) 17
noncomputable def K51 : Ctx := K50.addP i_ref43_Right G_groups
theorem g51 : Good K51 := g50.addP x_ref43_Right G_groups fun args v h => by
  unfold G_groups at h
  (repeat' split at h) <;> first | (cases h; done) | (cases h; exact w_ref43_Right (by kernel_rfl) (by kernel_rfl) (by kernel_rfl) (by kernel_rfl) (by kernel_rfl) (by kernel_rfl) ‹_› ‹_›)
/-! ### closures -/
noncomputable def K52 : Ctx := lev K51 i_group_contained_d1 c_group_contained_d1 r_group_contained_d1 257
theorem g52 : Good K52 := lev_good g51 x_group_contained_d1 257
noncomputable def K53 : Ctx := K52.addI i_group_contained (fnT K52 c_group_contained r_group_contained)
theorem g53 : Good K53 := g52.addI x_group_contained
theorem kC53 : KnowC K53 := ⟨by kernel_rfl, fun x l hx hs nm n h => (w_contained (C := K52) (by kernel_rfl) hx hs (visC (C0 := K51) (by kernel_rfl) (by kernel_rfl) hx hs 257) nm n h).ok2⟩
noncomputable def K54 : Ctx := lev K53 i_group_Depth_d1 c_group_Depth_d1 r_group_Depth_d1 18
theorem g54 : Good K54 := lev_good g53 x_group_Depth_d1 18
noncomputable def K55 : Ctx := K54.addP i_group_Depth G_Depth
theorem g55 : Good K55 := g54.addP x_group_Depth G_Depth fun args v h => by
  unfold G_Depth at h
  (repeat' split at h) <;> first | (cases h; done) | skip
  rename_i hc
  cases h
  exact w_group_Depth (by kernel_rfl) ‹_› hc.1 (visD (C0 := K53) (by kernel_rfl) (by kernel_rfl) ‹_› hc.1 hc.2 18) _
noncomputable def K56 : Ctx := K55.addP i_group_Right G_groups
theorem kC55 : KnowC K55 := ⟨by kernel_rfl, kC53.2⟩
theorem g56 : Good K56 := g55.addP x_group_Right G_groups fun args v h => by
  unfold G_groups at h
  (repeat' split at h) <;> first | (cases h; done) | (cases h; exact w_group_Right (by kernel_rfl) kC55 (by kernel_rfl) ‹_› ‹_›)
noncomputable def K57 : Ctx := K56.addI i_access_Right_d1 (fnT K56 c_access_Right_d1 r_access_Right_d1)
theorem g57 : Good K57 := g56.addI x_access_Right_d1
theorem kR57 : KnowR K57 := ⟨by kernel_rfl, fun c g r id n h hc hid hr => (w_access_Right_d1 (C := K56) hc hid hr).ok⟩
noncomputable def K58 : Ctx := K57.addI i_slices_IndexFunc_LGroup_Group (fnT K57 c_slices_IndexFunc_LGroup_Group r_slices_IndexFunc_LGroup_Group)
theorem g58 : Good K58 := g57.addI x_slices_IndexFunc_LGroup_Group
theorem kI58 : KnowI K58 := ⟨by kernel_rfl, fun x l r id n h hx hl hid hr => (w_slices_IndexFunc (C := K57) kR57 hx hl hid hr).ok⟩
noncomputable def K59 : Ctx := K58.addI i_slices_ContainsFunc_LGroup_Group (fnT K58 c_slices_ContainsFunc_LGroup_Group r_slices_ContainsFunc_LGroup_Group)
theorem g59 : Good K59 := g58.addI x_slices_ContainsFunc_LGroup_Group
theorem kF59 : KnowF K59 := ⟨by kernel_rfl, fun x l r id n h hx hl hid hr => (w_slices_ContainsFunc (C := K58) kI58 hx hl hid hr).ok⟩
end Go.Pv.T
namespace Go.Pv.T
open Go Go.Pv
set_option linter.unusedSimpArgs false
set_option linter.unusedVariables false
set_option maxRecDepth 100000

noncomputable def K60 : Ctx := K59.addP i_access_Right G_right
theorem g60 : Good K60 := g59.addP x_access_Right G_right fun args v h => by
  unfold G_right at h
  (repeat' split at h) <;> first | (cases h; done) | (cases h; exact w_access_Right (by kernel_rfl) kF59 (by kernel_rfl) (by kernel_rfl) (by kernel_rfl) ‹_›)
noncomputable def K61 : Ctx := K60.addP i_ref44_Right G_right
theorem g61 : Good K61 := g60.addP x_ref44_Right G_right fun args v h => by
  unfold G_right at h
  (repeat' split at h) <;> first | (cases h; done) | (cases h; exact w_ref44_Right (by kernel_rfl) (by kernel_rfl) (by kernel_rfl) ‹_› (dPolicy_len ‹_›))
noncomputable def K62 : Ctx := K61.addP i_ref44_Same G_Same
theorem g62 : Good K62 := g61.addP x_ref44_Same G_Same fun args v h => by
  unfold G_Same at h
  (repeat' split at h) <;> first | (cases h; done) | (cases h; exact w_ref44_Same (by kernel_rfl) (by kernel_rfl) ‹_› ‹_›)
noncomputable def K63 : Ctx := K62.addP i_law44_small G_small
theorem g63 : Good K63 := g62.addP x_law44_small G_small fun args v h => by
  unfold G_small at h
  (repeat' split at h) <;> first | (cases h; done) | (cases h; exact w_law44_small ‹_›)
noncomputable def K64 : Ctx := K63.addI i_slices_Clone_Lint_int (fnT K63 c_slices_Clone_Lint_int r_slices_Clone_Lint_int)
theorem g64 : Good K64 := g63.addI x_slices_Clone_Lint_int
noncomputable def K65 : Ctx := K64.addI i_slices_Sort_Lint_int T_Sort
theorem g65 : Good K65 := ⟨g64.tab.addI (Sort_IS Go.Proofs.Tryz.lays189 (fun args w => Go.Proofs.enters_of (fn := Go.Proofs.Tryz.f93) (by kernel_rfl) (by kernel_rfl) (by rfl) args w)), g64.ord⟩
noncomputable def K66 : Ctx := K65.addI i_slices_Compact_Lint_int T_Compact
theorem g66 : Good K66 := ⟨g65.tab.addI (Compact_IS Go.Proofs.Tryz.lays20 (fun args w => Go.Proofs.enters_of (fn := Go.Proofs.Tryz.f94) (by kernel_rfl) (by kernel_rfl) (by rfl) args w)), g65.ord⟩
theorem kCl66 : KnowCl K66 := ⟨by kernel_rfl, fun x l hx hl n h => (w_slices_Clone_int (C := K63) hx hl n h).ok⟩
theorem kC66 : KnowC K66 := ⟨by kernel_rfl, kC53.2⟩
noncomputable def K67 : Ctx := K66.addP i_group_Users G_Users
theorem g67 : Good K67 := ⟨g66.tab.addP (PS.ofH g66.tab g66.ord x_group_Users fun args v h => by
  unfold G_Users at h
  (repeat' split at h) <;> first | (cases h; done) | (cases h; exact w_group_Users (by kernel_rfl) kCl66 kC66 ⟨by kernel_rfl, by kernel_rfl⟩ ⟨by kernel_rfl, by kernel_rfl⟩ ‹_› ‹_› _)), g66.ord⟩
noncomputable def K68 : Ctx := K67.addP i_group_In G_In
theorem g68 : Good K68 := g67.addP x_group_In G_In fun args v h => by
  unfold G_In at h
  (repeat' split at h) <;> first | (cases h; done) | (cases h; exact w_group_In (by kernel_rfl) (by kernel_rfl) ‹_› ‹_› _ _)
noncomputable def K69 : Ctx := K68.addP i_glob_element_stands G_stands
theorem g69 : Good K69 := g68.addP x_glob_element_stands G_stands stands_ok
noncomputable def K70 : Ctx := K69.addP i_glob_Match G_glob_Match
theorem g70 : Good K70 := g69.addP x_glob_Match G_glob_Match fun args v h => by
  unfold G_glob_Match at h
  (repeat' split at h) <;> first | (cases h; done) | (cases h; exact w_glob_Match (by kernel_rfl) (by kernel_rfl) (by kernel_rfl) _ _ ‹_›)
noncomputable def K71 : Ctx := K70.addP i_access_applies G_applies
theorem g71 : Good K71 := g70.addP x_access_applies G_applies fun args v h => by
  unfold G_applies at h
  split at h
  · split at h
    · rename_i hp hr
      split at h
      · rename_i hc
        cases h
        obtain rfl := dRule_inv hr
        exact w_access_applies (by kernel_rfl) (by kernel_rfl) hp _ _ _ _ hc.1 hc.2
      · cases h
    · cases h
  · cases h
noncomputable def K72 : Ctx := K71.addP i_access_Deciding G_deciding
theorem g72 : Good K72 := g71.addP x_access_Deciding G_deciding fun args v h => by
  unfold G_deciding at h
  (repeat' split at h) <;> first | (cases h; done) | (cases h; exact w_access_Deciding (by kernel_rfl) (by kernel_rfl) ‹_› _ _ _ ‹_›)
noncomputable def K73 : Ctx := K72.addP i_access_Can G_can
theorem g73 : Good K73 := g72.addP x_access_Can G_can fun args v h => by
  unfold G_can at h
  (repeat' split at h) <;> first | (cases h; done) | (cases h; exact w_access_Can (by kernel_rfl) ‹_› _ _ _ ‹_›)
noncomputable def K74 : Ctx := K73.addP i_access_Readers G_readers
theorem g74 : Good K74 := g73.addP x_access_Readers G_readers fun args v h => by
  unfold G_readers at h
  (repeat' split at h) <;> first | (cases h; done) | (cases h; exact w_access_Readers (by kernel_rfl) ‹_› _ _ ‹_›)
noncomputable def K75 : Ctx := K74.addP i_law44_example G_example
theorem g75 : Good K75 := g74.addP x_law44_example G_example fun args v h => by
  unfold G_example at h
  split at h <;> first | (cases h; done) | (cases h; exact w_law44_example)
noncomputable def K76 : Ctx := K75.addP i_law44_alive G_alive
theorem g76 : Good K76 := g75.addP x_law44_alive G_alive fun args v h => by
  unfold G_alive at h
  split at h <;> first | (cases h; done) | (cases h; exact w_law44_alive (by kernel_rfl) (by kernel_rfl) (by kernel_rfl) (by kernel_rfl) (by kernel_rfl) (by kernel_rfl) (by kernel_rfl))
/-- The law's answer, over the program's text. -/
theorem ps_AccessRights : PS Go.Proofs.Tryz.prog (fun _ => []) i_law44_AccessRights G_AccessRights :=
  PS.of g76.tab g76.ord x_law44_AccessRights fun args v h => by
    unfold G_AccessRights at h
    (repeat' split at h) <;> first | (cases h; done) | (cases h; exact w_law44_AccessRights (by kernel_rfl) (by kernel_rfl) (by kernel_rfl) (by kernel_rfl) (by kernel_rfl) (by kernel_rfl) ‹_› ‹_›)
end Go.Pv.T
