/- A part of the proof that AccessRights returns true wherever its input is of bulk at most 1048576: what the functions that it reaches answer. No theorem of the claim stands here. -/
import Derived.Test.YtedapkgjicmhjaaGreatDoorPvDat
import Derived.Test.YtedapkgjicmhjaaGreatDoorT44C
import Derived.Test.YtedapkgjicmhjaaGreatDoorPvExt
namespace Go.Pv.T
open Go Go.Pv
set_option linter.unusedSimpArgs false
set_option linter.unusedVariables false

def letterB (c : Int) : Bool := decide (97 ≤ c) && decide (c ≤ 122) || decide (65 ≤ c) && decide (c ≤ 90) || decide (48 ≤ c) && decide (c ≤ 57) || decide (c = 46) || decide (c = 95) || decide (c = 45)
def G_glob_letter : List AV → Option AV
  | [.int .u8 c] => some (.bool (letterB c))
  | _ => none
theorem w_glob_letter {C : Ctx} (c : Int) : FnW C c_glob_letter r_glob_letter [.int .u8 c] (.bool (letterB c)) := by
  unfold FnW c_glob_letter r_glob_letter
  simp +contextual -implicitDefEqProofs [letterB]

def upB (c : Int) : Bool := decide (65 ≤ c) && decide (c ≤ 90) || decide (97 ≤ c) && decide (c ≤ 122)
def digB (c : Int) : Bool := decide (48 ≤ c) && decide (c ≤ 57)
def G_ref02_Letter : List AV → Option AV
  | [.int .u8 c] => some (.bool (upB c))
  | _ => none
theorem w_ref02_Letter {C : Ctx} (c : Int) : FnW C c_ref02_Letter r_ref02_Letter [.int .u8 c] (.bool (upB c)) := by
  unfold FnW c_ref02_Letter r_ref02_Letter
  simp +contextual -implicitDefEqProofs [upB]
def G_ref02_Digit : List AV → Option AV
  | [.int .u8 c] => some (.bool (digB c))
  | _ => none
theorem w_ref02_Digit {C : Ctx} (c : Int) : FnW C c_ref02_Digit r_ref02_Digit [.int .u8 c] (.bool (digB c)) := by
  unfold FnW c_ref02_Digit r_ref02_Digit
  simp +contextual -implicitDefEqProofs [digB]

def letB (c : UInt8) : Bool := letterB c.toNat
theorem letterB_eq (c : Int) : letterB c = (upB c || digB c || decide (c = 46) || decide (c = 95) || decide (c = 45)) := by
  simp only [letterB, upB, digB]
  cases decide (97 ≤ c) && decide (c ≤ 122) <;> cases decide (65 ≤ c) && decide (c ≤ 90) <;> simp
def nameB (s : List UInt8) : Bool := !(decide ((s.length : Int) < 1) || decide ((24 : Int) < s.length) || s == [46] || s == [46, 46]) && s.all letB
def G_ref02_name : List AV → Option AV
  | [.str s] => if s.length ≤ 1000000 then some (.bool (nameB s)) else none
  | _ => none
theorem all_take_succ {α : Type} {p : α → Bool} {s : List α} {i : Nat} (h : i < s.length) (ha : (s.take i).all p = true) (hp : p s[i] = true) : (s.take (i + 1)).all p = true := by
  rw [List.take_succ_eq_append_getElem h, List.all_append, ha]; simp [hp]
theorem all_false {α : Type} {p : α → Bool} {s : List α} {i : Nat} (h : i < s.length) (hp : p s[i] = false) : s.all p = false := by
  rw [List.all_eq_false]; exact ⟨s[i], List.getElem_mem h, by simp [hp]⟩
theorem w_ref02_name {C : Ctx} (hL : C.TP i_ref02_Letter = some G_ref02_Letter) (hD : C.TP i_ref02_Digit = some G_ref02_Digit) (s : List UInt8) (hs : s.length ≤ 1000000) :
    FnW C c_ref02_name r_ref02_name [.str s] (.bool (nameB s)) := by
  unfold FnW c_ref02_name r_ref02_name
  simp +contextual -implicitDefEqProofs
  refine Ck_mk ?_ ?_ <;> intro hg <;> simp +contextual -implicitDefEqProofs
  · simp only [nameB, hg]; simp
  · refine Wk_loop (fun k env n h => ∃ i : Nat, k = s.length - i ∧ i ≤ s.length ∧ env 0 = .str s ∧ env 3 = .int .i64 i ∧ (s.take i).all letB = true) s.length ⟨0, by simp⟩ ?_
    rintro k env n h ⟨i, rfl, hi, e0, e3, hall⟩
    simp +contextual -implicitDefEqProofs [e0, e3]
    refine Ck_mk ?_ ?_ <;> intro hlt
    · simp at hlt
      have e : letB s[i] = _ := letterB_eq (s[i].toNat : Int)
      simp +contextual -implicitDefEqProofs [e0, e3, callA_fix hL, callA_fix hD, G_ref02_Letter, G_ref02_Digit, hlt]
      refine Ck_mk ?_ ?_ <;> intro hc
      · simp +contextual -implicitDefEqProofs [nameB, hg]
        exact ⟨s[i], List.getElem_mem hlt, by grind⟩
      · simp +contextual -implicitDefEqProofs [e0, e3]
        rw [wrap_succ (by omega)]
        refine ⟨s.length - (i + 1), by omega, i + 1, rfl, by omega, by simp [e0], by simp, ?_⟩
        have := all_take_succ (p := letB) hlt hall (by grind)
        simpa using this
    · simp at hlt
      simp +contextual -implicitDefEqProofs [nameB, hg]
      have : s.take i = s := List.take_of_length_le hlt
      rw [this] at hall
      simpa using hall
end Go.Pv.T
namespace Go.Pv.T
open Go Go.Pv
set_option linter.unusedSimpArgs false
set_option linter.unusedVariables false

/-! ### bytes in strings -/
def ixB (s : List UInt8) (c : UInt8) : Int := Lib.indexByte s c
theorem w_stringslite_IndexByte {C : Ctx} (hE : C.TP i_bytealg_IndexByteString = some indexByteF) (s : List UInt8) (c : Int) :
    FnW C c_stringslite_IndexByte r_stringslite_IndexByte [.str s, .int .u8 c] (.int .i64 (Lib.indexByte s c.toNat.toUInt8)) := by
  unfold FnW c_stringslite_IndexByte r_stringslite_IndexByte
  simp +contextual -implicitDefEqProofs [callA_fix hE, indexByteF]
theorem w_strings_IndexByte {C : Ctx} (hE : C.TP i_stringslite_IndexByte = some indexByteF) (s : List UInt8) (c : Int) :
    FnW C c_strings_IndexByte r_strings_IndexByte [.str s, .int .u8 c] (.int .i64 (Lib.indexByte s c.toNat.toUInt8)) := by
  unfold FnW c_strings_IndexByte r_strings_IndexByte
  simp +contextual -implicitDefEqProofs [callA_fix hE, indexByteF]
/-- strings.Index for one byte. -/
def G_Index : List AV → Option AV
  | [.str s, .str [c]] => some (.int .i64 (Lib.indexByte s c))
  | _ => none
theorem w_stringslite_Index {C : Ctx} (hE : C.TP i_stringslite_IndexByte = some indexByteF) (s : List UInt8) (c : UInt8) :
    FnW C c_stringslite_Index r_stringslite_Index [.str s, .str [c]] (.int .i64 (Lib.indexByte s c)) := by
  unfold FnW c_stringslite_Index r_stringslite_Index
  simp +contextual -implicitDefEqProofs
  refine Ck_mk ?_ ?_ <;> intro hg
  · obtain rfl : [c] = s := by simpa using hg
    simp +contextual -implicitDefEqProofs [Lib.indexByte]
  · simp +contextual -implicitDefEqProofs [callA_fix hE, indexByteF]
theorem w_strings_Index {C : Ctx} (hE : C.TP i_stringslite_Index = some G_Index) (s : List UInt8) (c : UInt8) :
    FnW C c_strings_Index r_strings_Index [.str s, .str [c]] (.int .i64 (Lib.indexByte s c)) := by
  unfold FnW c_strings_Index r_strings_Index
  simp +contextual -implicitDefEqProofs [callA_fix hE, G_Index]
def G_Contains1 : List AV → Option AV
  | [.str s, .str [c]] => some (.bool (s.contains c))
  | _ => none
theorem indexByte_contains (s : List UInt8) (c : UInt8) : decide (0 ≤ Lib.indexByte s c) = s.contains c := by
  induction s with
  | nil => rfl
  | cons b l ih =>
    have hge := Lib.indexByte_ge l c
    rw [Lib.indexByte]
    by_cases h : b = c
    · subst h; simp
    · have h' : ¬ c = b := fun q => h q.symm
      simp only [beq_iff_eq, h, if_false, List.contains_cons, h', beq_eq_false_iff_ne.2 h', Bool.false_or, ← ih]
      split
      · rename_i q; simp [q]
      · simp; omega
theorem w_strings_Contains {C : Ctx} (hE : C.TP i_strings_Index = some G_Index) (s : List UInt8) (c : UInt8) :
    FnW C c_strings_Contains r_strings_Contains [.str s, .str [c]] (.bool (s.contains c)) := by
  unfold FnW c_strings_Contains r_strings_Contains
  have := indexByte_contains s c
  simp +contextual -implicitDefEqProofs [callA_fix hE, G_Index, this]
def G_Count1 : List AV → Option AV
  | [.str s, .str [c]] => some (.int .i64 (s.count c))
  | _ => none
theorem w_strings_Count {C : Ctx} (hE : C.TP i_bytealg_CountString = some countF) (s : List UInt8) (c : UInt8) :
    FnW C c_strings_Count r_strings_Count [.str s, .str [c]] (.int .i64 (s.count c)) := by
  unfold FnW c_strings_Count r_strings_Count
  simp +contextual -implicitDefEqProofs [callA_fix hE, countF, Lib.countByte]
def G_HasPrefix : List AV → Option AV
  | [.str s, .str p] => some (.bool (p.isPrefixOf s))
  | _ => none
theorem prefix_eq (s p : List UInt8) : (decide ((p.length : Int) ≤ s.length) && s.take p.length == p) = p.isPrefixOf s := by
  rw [Bool.eq_iff_iff]
  simp only [Bool.and_eq_true, decide_eq_true_eq, beq_iff_eq, List.isPrefixOf_iff_prefix]
  rw [List.prefix_iff_eq_take]
  constructor
  · rintro ⟨_, h⟩; exact h.symm
  · intro h
    have : p.length ≤ s.length := by
      have := congrArg List.length h
      rw [List.length_take] at this
      omega
    exact ⟨by omega, h.symm⟩
theorem w_stringslite_HasPrefix {C : Ctx} (s p : List UInt8) :
    FnW C c_stringslite_HasPrefix r_stringslite_HasPrefix [.str s, .str p] (.bool (p.isPrefixOf s)) := by
  unfold FnW c_stringslite_HasPrefix r_stringslite_HasPrefix
  rw [← prefix_eq]
  simp +contextual -implicitDefEqProofs
theorem w_strings_HasPrefix {C : Ctx} (hE : C.TP i_stringslite_HasPrefix = some G_HasPrefix) (s p : List UInt8) :
    FnW C c_strings_HasPrefix r_strings_HasPrefix [.str s, .str p] (.bool (p.isPrefixOf s)) := by
  unfold FnW c_strings_HasPrefix r_strings_HasPrefix
  simp +contextual -implicitDefEqProofs [callA_fix hE, G_HasPrefix]

/-! ### strings.Split at one byte -/
def splitB (c : UInt8) : List UInt8 → List (List UInt8)
  | [] => [[]]
  | x :: r => if x = c then [] :: splitB c r else match splitB c r with
    | h :: t => (x :: h) :: t
    | [] => [[x]]
theorem splitB_ne (c : UInt8) (s : List UInt8) : splitB c s ≠ [] := by
  cases s with
  | nil => simp [splitB]
  | cons x r => unfold splitB; split; simp; split <;> simp
theorem splitB_len (c : UInt8) (s : List UInt8) : (splitB c s).length = s.count c + 1 := by
  induction s with
  | nil => rfl
  | cons x r ih =>
    unfold splitB
    split
    · rename_i h; subst h; simp [ih]
    · rename_i h
      rw [List.count_cons_of_ne h]
      split
      · rename_i a b q; rw [q] at ih; simpa using ih
      · rename_i q; exact absurd q (splitB_ne c r)
theorem splitB_no (c : UInt8) (s : List UInt8) (h : Lib.indexByte s c < 0) : splitB c s = [s] := by
  induction s with
  | nil => rfl
  | cons x r ih =>
    rw [Lib.indexByte] at h
    by_cases hx : x = c
    · subst hx; simp at h
    · have hge := Lib.indexByte_ge r c
      simp only [beq_iff_eq, hx, if_false] at h
      have : Lib.indexByte r c < 0 := by split at h <;> omega
      unfold splitB
      rw [if_neg hx, ih this]
theorem splitB_at (c : UInt8) (s : List UInt8) (m : Nat) (h : Lib.indexByte s c = m) : m < s.length ∧ s.count c = (s.drop (m + 1)).count c + 1 ∧ splitB c s = s.take m :: splitB c (s.drop (m + 1)) := by
  induction s generalizing m with
  | nil => simp [Lib.indexByte] at h
  | cons x r ih =>
    rw [Lib.indexByte] at h
    by_cases hx : x = c
    · subst hx
      obtain rfl : m = 0 := by simp at h; omega
      simp [splitB]
    · have hge := Lib.indexByte_ge r c
      simp only [beq_iff_eq, hx, if_false] at h
      split at h
      · omega
      · obtain ⟨k, rfl⟩ : ∃ k, m = k + 1 := ⟨m - 1, by omega⟩
        obtain ⟨h1, h2, h3⟩ := ih k (by omega)
        refine ⟨by simpa using h1, by rw [List.count_cons_of_ne hx, h2, List.drop_succ_cons], ?_⟩
        rw [splitB, if_neg hx, h3]
        simp
def G_Split1 : List AV → Option AV
  | [.str s, .str [c]] => if s.length ≤ 1000000 then some (.lst 1 ((splitB c s).map fun p => [.str p]) true) else none
  | _ => none
def G_genSplit : List AV → Option AV
  | [.str s, .str [c], .int .i64 0, .int .i64 (-1)] => if s.length ≤ 1000000 then some (.lst 1 ((splitB c s).map fun p => [.str p]) true) else none
  | _ => none
theorem getE_rep {l : List (List UInt8)} {k i : Nat} (hi : l.length ≤ i) (h : i < l.length + k) : (l.map (fun p => [AV.str p]) ++ List.replicate k [AV.str []])[i]? = some [.str []] := by
  rw [List.getElem?_append_right (by simpa using hi)]
  simp [List.getElem?_replicate]
  omega
theorem set_rep {l : List (List UInt8)} {k : Nat} {x : List UInt8} (hk : 0 < k) : (l.map (fun p => [AV.str p]) ++ List.replicate k [AV.str []]).set l.length [.str x] = (l ++ [x]).map (fun p => [AV.str p]) ++ List.replicate (k - 1) [AV.str []] := by
  obtain ⟨j, rfl⟩ : ∃ j, k = j + 1 := ⟨k - 1, by omega⟩
  rw [List.set_append_right _ _ (by simp)]
  simp [List.replicate_succ]
def Isplit (s : List UInt8) (c : UInt8) (k m : Nat) (env : Env) (n : Nat) (h : Hp) : Prop := ∃ (l : List (List UInt8)) (r : List UInt8), m = k - l.length ∧ r.length ≤ s.length ∧ splitB c s = l ++ splitB c r ∧ l.length + r.count c = k ∧ env 0 = .str r ∧ env 1 = .str [c] ∧ env 2 = .int .i64 0 ∧ env 3 = .int .i64 k ∧ env 9 = .arr 0 0 (k + 1) (k + 1) 1 false ∧
      env 10 = .int .i64 l.length ∧ h 0 = .row (l.map (fun p => [AV.str p]) ++ List.replicate (k + 1 - l.length) [.str []]) false
set_option maxHeartbeats 1000000 in
theorem w_strings_genSplit {C : Ctx} (hC : C.TP i_strings_Count = some G_Count1) (hI : C.TP i_strings_Index = some G_Index) (s : List UInt8) (c : UInt8) (hs : s.length ≤ 1000000) :
    FnW C c_strings_genSplit r_strings_genSplit [.str s, .str [c], .int .i64 0, .int .i64 (-1)] (.lst 1 ((splitB c s).map fun p => [.str p]) true) := by
  unfold FnW c_strings_genSplit r_strings_genSplit
  obtain ⟨k, hk⟩ : ∃ k, s.count c = k := ⟨_, rfl⟩
  have hcl : k ≤ s.length := hk ▸ List.count_le_length
  have hlt : ¬ s.length < k := by omega
  have e1 : IntKind.i64.wrap ((k : Int) + 1) = (k : Int) + 1 := wrap_in (by omega) (by omega)
  have e2 : IntKind.i64.wrap ((s.length : Int) + 1) = ((s.length : Int) + 1) := wrap_in (by omega) (by omega)
  have e3 : (0 : Int) ≤ k + 1 := by omega
  have e4 : (k : Int) + 1 ≤ 2147483648 := by omega
  have e5 : ((k : Int) + 1).toNat = k + 1 := by omega
  have e6 : IntKind.i64.wrap (k : Int) = k := wrap_in (by omega) (by omega)
  simp +contextual -implicitDefEqProofs [callA_fix hC, G_Count1, hk, e1, e2, hlt, e3, e4, e5, e6]
  refine Wk_loop (Isplit s c k) k ⟨[], s, by simp [hk]⟩ ?_
  rintro m env n h ⟨l, r, rfl, hr, hsp, hcn, g0, g1, g2, g3, g9, g10, gh⟩
  simp +contextual -implicitDefEqProofs [g0, g1, g2, g3, g9, g10, gh]
  have hfin : r.count c = 0 → splitB c s = l ++ [r] := by
    intro q
    rw [hsp]
    have := splitB_len c r
    rw [q] at this
    have hneg : Lib.indexByte r c < 0 := by
      by_cases h : Lib.indexByte r c < 0
      · exact h
      · have := (splitB_at c r (Lib.indexByte r c).toNat (by omega)).2.1; omega
    rw [splitB_no c r hneg]
  have hlen := splitB_len c s
  have e7 : IntKind.i64.wrap ((l.length : Int) + 1) = (l.length : Int) + 1 := wrap_in (by omega) (by omega)
  have e8 : ((l.length : Int) + 1).toNat = l.length + 1 := by omega
  have e9 : l.length < k + 1 := by omega
  have e10 : (l.length : Int) < k + 1 := by omega
  have e11 : (0 : Int) ≤ l.length + 1 := by omega
  have e12 : l.length ≤ k := by omega
  refine Ck_mk ?_ ?_ <;> intro hq
  · simp at hq
    simp +contextual -implicitDefEqProofs [callA_fix hI, G_Index, g0, g1]
    refine Ck_mk ?_ ?_ <;> intro hm
    · have : r.count c = 0 := by
        rcases Nat.eq_zero_or_pos (r.count c) with h | h
        · exact h
        · have h1 := splitB_len c r
          rw [splitB_no c r (by simpa using hm)] at h1
          simp at h1; omega
      omega
    · obtain ⟨j, hj⟩ : ∃ j : Nat, Lib.indexByte r c = j := ⟨(Lib.indexByte r c).toNat, by simp at hm; omega⟩
      obtain ⟨h1, h2, h3⟩ := splitB_at c r j hj
      have f1 : IntKind.i64.wrap (j : Int) = j := wrap_in (by omega) (by omega)
      have f2 : IntKind.i64.wrap ((j : Int) + 1) = ((j : Int) + 1) := wrap_in (by omega) (by omega)
      have f3 : ((j : Int) + 1).toNat = j + 1 := by omega
      have f4 : (0 : Int) ≤ j + 1 := by omega
      have f5 : j + 1 ≤ r.length := by omega
      have f6 : j ≤ r.length := by omega
      have f7 : (j : Int) + 1 ≤ r.length := by omega
      simp +contextual -implicitDefEqProofs [g0, g1, g2, g3, g9, g10, gh, hj, f1, f2, f3, f4, f5, f6, f7, e7, e8, e9, e10, e11, e12, setR_i (getE_rep (Nat.le_refl _) (show l.length < l.length + (k + 1 - l.length) by omega))]
      refine ⟨k - (l.length + 1), by omega, l ++ [r.take j], r.drop (j + 1), by simp, by simp only [List.length_drop]; omega, by rw [hsp, h3]; simp, by simp only [List.length_append, List.length_singleton]; omega, ?_⟩
      simp +contextual -implicitDefEqProofs [g0, g1, g2, g3, g9, g10, gh]
      have := @set_rep l (k + 1 - l.length) (r.take j) (by omega)
      simp at this
      simp [this]
      omega
  · simp at hq
    have hz := hfin (by omega)
    have hll : l.length = k := by omega
    simp +contextual -implicitDefEqProofs [g0, g1, g2, g3, g9, g10, gh, e7, e8, e9, e10, e11, e12, setR_i (getE_rep (Nat.le_refl _) (show l.length < l.length + (k + 1 - l.length) by omega))]
    have hs1 := @set_rep l (k + 1 - l.length) r (by omega)
    have hk1 : k + 1 - l.length - 1 = 0 := by omega
    have hlr : (((l ++ [r]).map (fun p => [AV.str p])).length) = l.length + 1 := by simp
    rw [hz]
    rw [hk1] at hs1
    simp only [List.set_append_right _ _ (show (l.map (fun p => [AV.str p])).length ≤ l.length by simp), List.length_map, Nat.sub_self, List.replicate_zero, List.append_nil] at hs1
    rw [snap_arrE (d := 10) (es := (l ++ [r]).map (fun p => [AV.str p])) (fr := false) (by simp only [upd_get, if_true]; rw [hs1]) hlr (by intro e he x hx; simp at he; rcases he with ⟨a, _, rfl⟩ | rfl <;> (simp at hx; subst hx; simp))]
    simp [hll]
end Go.Pv.T
namespace Go.Pv.T
open Go Go.Pv
set_option linter.unusedSimpArgs false
set_option linter.unusedVariables false

/-! ### lists of numbers, of strings -/
abbrev LI := 2305843009213693951
def eqG {α : Type} [BEq α] (d : AV → Option (List α)) : List AV → Option AV
  | [x, y] => match d x, d y with
    | some a, some b => if a.length ≤ LI then some (.bool (a == b)) else none
    | _, _ => none
  | _ => none
def inG {α : Type} [BEq α] (d : AV → Option (List α)) (e : AV → Option α) : List AV → Option AV
  | [x, y] => match d x, e y with
    | some a, some b => if a.length ≤ LI then some (.bool (a.contains b)) else none
    | _, _ => none
  | _ => none
def ixG {α : Type} [BEq α] (d : AV → Option (List α)) (e : AV → Option α) : List AV → Option AV
  | [x, y] => match d x, e y with
    | some a, some b => if a.length ≤ LI then some (.int .i64 (ixOf (b == ·) a)) else none
    | _, _ => none
  | _ => none
def aInt : AV → Option Int
  | .int .i64 i => some i
  | _ => none
def aStr : AV → Option (List UInt8)
  | .str s => some s
  | _ => none
theorem w_ref44_SameInts {C : Ctx} {x y : AV} {a b : List Int} (ha : dInts x = some a) (hb : dInts y = some b) (hl : a.length ≤ LI) :
    FnW C c_ref44_SameInts r_ref44_SameInts [x, y] (.bool (a == b)) := by
  unfold FnW c_ref44_SameInts r_ref44_SameInts
  generalize hv : AV.bool (a == b) = v
  simp +contextual -implicitDefEqProofs [dSl_len ha, dSl_len hb]
  refine Ck_mk ?_ ?_ <;> intro hq
  · have hne : a.length ≠ b.length := by simp at hq; omega
    simp +contextual -implicitDefEqProofs
    rw [← hv, beq_len hne]
  · have heq : a.length = b.length := by simp at hq; omega
    simp +contextual -implicitDefEqProofs [dSl_len ha, dSl_len hb]
    obtain ⟨J, hJ⟩ : ∃ J : Nat → Env → Nat → Hp → Prop, J = Scan [(0, x), (1, y)] [] fun j => a[j]? = b[j]? := ⟨_, rfl⟩
    refine Wk_scan a.length 5 0 J hl (Nat.zero_le _) (by simp) (hJ ▸ ⟨by simp, by simp, Upto.zero⟩) ?_ ?_
    · intro i env n h _ hi hw ei hj
      rw [hJ] at hj
      obtain ⟨fe, -, hp⟩ := hj
      simp only [FE_cons, FE_nil, and_true] at fe
      obtain ⟨ca, h1, h2⟩ := dSl_at ha hi
      obtain ⟨cb, h3, h4⟩ := dSl_at hb (heq ▸ hi)
      obtain rfl := dInt_inv h2
      obtain rfl := dInt_inv h4
      simp +contextual -implicitDefEqProofs [ei, fe, dSl_len ha, hi, h1, h3, hw]
      refine Ck_mk ?_ ?_ <;> intro hc
      · have hne : a[i] ≠ b[i] := by simpa using hc
        simp +contextual -implicitDefEqProofs
        rw [← hv, beq_at hi (heq ▸ hi) hne]
      · have hee : a[i] = b[i] := by simpa using hc
        simp +contextual -implicitDefEqProofs [ei, fe, hw]
        rw [hJ]
        exact ⟨by simp [fe], by simp, hp.succ (by rw [List.getElem?_eq_getElem hi, List.getElem?_eq_getElem (heq ▸ hi), hee])⟩
    · intro env n h ei hj
      rw [hJ] at hj
      obtain ⟨fe, -, hp⟩ := hj
      simp only [FE_cons, FE_nil, and_true] at fe
      have := beq_all heq fun j hj => by have := hp j hj; simp only [List.getElem?_eq_getElem hj, List.getElem?_eq_getElem (heq ▸ hj)] at this; exact Option.some.inj this
      simp +contextual -implicitDefEqProofs [ei, fe, dSl_len ha]
      rw [← hv, this]

theorem w_slices_Equal_Lint_int {C : Ctx} {x y : AV} {a b : List Int} (ha : dInts x = some a) (hb : dInts y = some b) (hl : a.length ≤ LI) :
    FnW C c_slices_Equal_Lint_int r_slices_Equal_Lint_int [x, y] (.bool (a == b)) := by
  unfold FnW c_slices_Equal_Lint_int r_slices_Equal_Lint_int
  generalize hv : AV.bool (a == b) = v
  simp +contextual -implicitDefEqProofs [dSl_len ha, dSl_len hb]
  refine Ck_mk ?_ ?_ <;> intro hq
  · have hne : a.length ≠ b.length := by simp at hq; omega
    simp +contextual -implicitDefEqProofs
    rw [← hv, beq_len hne]
  · have heq : a.length = b.length := by simp at hq; omega
    simp +contextual -implicitDefEqProofs [dSl_len ha, dSl_len hb]
    obtain ⟨J, hJ⟩ : ∃ J : Nat → Env → Nat → Hp → Prop, J = Scan [(0, x), (1, y), (12, .int .i64 a.length)] [] fun j => a[j]? = b[j]? := ⟨_, rfl⟩
    refine Wk_scan a.length 13 0 J hl (Nat.zero_le _) (by simp) (hJ ▸ ⟨by simp, by simp, Upto.zero⟩) ?_ ?_
    · intro i env n h _ hi hw ei hj
      rw [hJ] at hj
      obtain ⟨fe, -, hp⟩ := hj
      simp only [FE_cons, FE_nil, and_true] at fe
      obtain ⟨ca, h1, h2⟩ := dSl_at ha hi
      obtain ⟨cb, h3, h4⟩ := dSl_at hb (heq ▸ hi)
      obtain rfl := dInt_inv h2
      obtain rfl := dInt_inv h4
      simp +contextual -implicitDefEqProofs [ei, fe, dSl_len ha, hi, h1, h3, hw]
      refine Ck_mk ?_ ?_ <;> intro hc
      · have hne : a[i] ≠ b[i] := by simpa using hc
        simp +contextual -implicitDefEqProofs
        rw [← hv, beq_at hi (heq ▸ hi) hne]
      · have hee : a[i] = b[i] := by simpa using hc
        simp +contextual -implicitDefEqProofs [ei, fe, hw]
        rw [hJ]
        exact ⟨by simp [fe], by simp, hp.succ (by rw [List.getElem?_eq_getElem hi, List.getElem?_eq_getElem (heq ▸ hi), hee])⟩
    · intro env n h ei hj
      rw [hJ] at hj
      obtain ⟨fe, -, hp⟩ := hj
      simp only [FE_cons, FE_nil, and_true] at fe
      have := beq_all heq fun j hj => by have := hp j hj; simp only [List.getElem?_eq_getElem hj, List.getElem?_eq_getElem (heq ▸ hj)] at this; exact Option.some.inj this
      simp +contextual -implicitDefEqProofs [ei, fe, dSl_len ha]
      rw [← hv, this]

theorem w_slices_Equal_Lstring_string {C : Ctx} {x y : AV} {a b : List (List UInt8)} (ha : dStrs x = some a) (hb : dStrs y = some b) (hl : a.length ≤ LI) :
    FnW C c_slices_Equal_Lstring_string r_slices_Equal_Lstring_string [x, y] (.bool (a == b)) := by
  unfold FnW c_slices_Equal_Lstring_string r_slices_Equal_Lstring_string
  generalize hv : AV.bool (a == b) = v
  simp +contextual -implicitDefEqProofs [dSl_len ha, dSl_len hb]
  refine Ck_mk ?_ ?_ <;> intro hq
  · have hne : a.length ≠ b.length := by simp at hq; omega
    simp +contextual -implicitDefEqProofs
    rw [← hv, beq_len hne]
  · have heq : a.length = b.length := by simp at hq; omega
    simp +contextual -implicitDefEqProofs [dSl_len ha, dSl_len hb]
    obtain ⟨J, hJ⟩ : ∃ J : Nat → Env → Nat → Hp → Prop, J = Scan [(0, x), (1, y), (12, .int .i64 a.length)] [] fun j => a[j]? = b[j]? := ⟨_, rfl⟩
    refine Wk_scan a.length 13 0 J hl (Nat.zero_le _) (by simp) (hJ ▸ ⟨by simp, by simp, Upto.zero⟩) ?_ ?_
    · intro i env n h _ hi hw ei hj
      rw [hJ] at hj
      obtain ⟨fe, -, hp⟩ := hj
      simp only [FE_cons, FE_nil, and_true] at fe
      obtain ⟨ca, h1, h2⟩ := dSl_at ha hi
      obtain ⟨cb, h3, h4⟩ := dSl_at hb (heq ▸ hi)
      obtain rfl := dStr_inv h2
      obtain rfl := dStr_inv h4
      simp +contextual -implicitDefEqProofs [ei, fe, dSl_len ha, hi, h1, h3, hw]
      refine Ck_mk ?_ ?_ <;> intro hc
      · have hne : a[i] ≠ b[i] := by simpa using hc
        simp +contextual -implicitDefEqProofs
        rw [← hv, beq_at hi (heq ▸ hi) hne]
      · have hee : a[i] = b[i] := by simpa using hc
        simp +contextual -implicitDefEqProofs [ei, fe, hw]
        rw [hJ]
        exact ⟨by simp [fe], by simp, hp.succ (by rw [List.getElem?_eq_getElem hi, List.getElem?_eq_getElem (heq ▸ hi), hee])⟩
    · intro env n h ei hj
      rw [hJ] at hj
      obtain ⟨fe, -, hp⟩ := hj
      simp only [FE_cons, FE_nil, and_true] at fe
      have := beq_all heq fun j hj => by have := hp j hj; simp only [List.getElem?_eq_getElem hj, List.getElem?_eq_getElem (heq ▸ hj)] at this; exact Option.some.inj this
      simp +contextual -implicitDefEqProofs [ei, fe, dSl_len ha]
      rw [← hv, this]

theorem w_ref44_sameTexts {C : Ctx} {x y : AV} {a b : List (List UInt8)} (ha : dStrs x = some a) (hb : dStrs y = some b) (hl : a.length ≤ LI) :
    FnW C c_ref44_sameTexts r_ref44_sameTexts [x, y] (.bool (a == b)) := by
  unfold FnW c_ref44_sameTexts r_ref44_sameTexts
  generalize hv : AV.bool (a == b) = v
  simp +contextual -implicitDefEqProofs [dSl_len ha, dSl_len hb]
  refine Ck_mk ?_ ?_ <;> intro hq
  · have hne : a.length ≠ b.length := by simp at hq; omega
    simp +contextual -implicitDefEqProofs
    rw [← hv, beq_len hne]
  · have heq : a.length = b.length := by simp at hq; omega
    simp +contextual -implicitDefEqProofs [dSl_len ha, dSl_len hb]
    obtain ⟨J, hJ⟩ : ∃ J : Nat → Env → Nat → Hp → Prop, J = Scan [(0, x), (1, y)] [] fun j => a[j]? = b[j]? := ⟨_, rfl⟩
    refine Wk_scan a.length 5 0 J hl (Nat.zero_le _) (by simp) (hJ ▸ ⟨by simp, by simp, Upto.zero⟩) ?_ ?_
    · intro i env n h _ hi hw ei hj
      rw [hJ] at hj
      obtain ⟨fe, -, hp⟩ := hj
      simp only [FE_cons, FE_nil, and_true] at fe
      obtain ⟨ca, h1, h2⟩ := dSl_at ha hi
      obtain ⟨cb, h3, h4⟩ := dSl_at hb (heq ▸ hi)
      obtain rfl := dStr_inv h2
      obtain rfl := dStr_inv h4
      simp +contextual -implicitDefEqProofs [ei, fe, dSl_len ha, hi, h1, h3, hw]
      refine Ck_mk ?_ ?_ <;> intro hc
      · have hne : a[i] ≠ b[i] := by simpa using hc
        simp +contextual -implicitDefEqProofs
        rw [← hv, beq_at hi (heq ▸ hi) hne]
      · have hee : a[i] = b[i] := by simpa using hc
        simp +contextual -implicitDefEqProofs [ei, fe, hw]
        rw [hJ]
        exact ⟨by simp [fe], by simp, hp.succ (by rw [List.getElem?_eq_getElem hi, List.getElem?_eq_getElem (heq ▸ hi), hee])⟩
    · intro env n h ei hj
      rw [hJ] at hj
      obtain ⟨fe, -, hp⟩ := hj
      simp only [FE_cons, FE_nil, and_true] at fe
      have := beq_all heq fun j hj => by have := hp j hj; simp only [List.getElem?_eq_getElem hj, List.getElem?_eq_getElem (heq ▸ hj)] at this; exact Option.some.inj this
      simp +contextual -implicitDefEqProofs [ei, fe, dSl_len ha]
      rw [← hv, this]

theorem w_slices_Index_Lint_int {C : Ctx} {x : AV} {a : List Int} (b : Int) (ha : dInts x = some a) (hl : a.length ≤ LI) :
    FnW C c_slices_Index_Lint_int r_slices_Index_Lint_int [x, .int .i64 b] (.int .i64 (ixOf (b == ·) a)) := by
  unfold FnW c_slices_Index_Lint_int r_slices_Index_Lint_int
  generalize hv : AV.int .i64 (ixOf (b == ·) a) = v
  simp +contextual -implicitDefEqProofs [dSl_len ha]
  obtain ⟨J, hJ⟩ : ∃ J : Nat → Env → Nat → Hp → Prop, J = Scan [(0, x), (1, .int .i64 b), (7, .int .i64 a.length)] [] fun j => ∀ hj : j < a.length, (b == a[j]) = false := ⟨_, rfl⟩
  refine Wk_scan a.length 8 0 J hl (Nat.zero_le _) (by simp) (hJ ▸ ⟨by simp, by simp, Upto.zero⟩) ?_ ?_
  · intro i env n h _ hi hw ei hj
    rw [hJ] at hj
    obtain ⟨fe, -, hp⟩ := hj
    simp only [FE_cons, FE_nil, and_true] at fe
    obtain ⟨ca, h1, h2⟩ := dSl_at ha hi
    obtain rfl := dInt_inv h2
    simp +contextual -implicitDefEqProofs [ei, fe, hi, h1, hw]
    refine Ck_mk ?_ ?_ <;> intro hc
    · have hee : (b == a[i]) = true := by simpa using hc
      simp +contextual -implicitDefEqProofs [ei]
      rw [← hv, ixOf_at hi (fun j hj => hp j hj _) hee]
    · have hee : (b == a[i]) = false := by simpa using hc
      simp +contextual -implicitDefEqProofs [ei, fe, hw]
      rw [hJ]
      exact ⟨by simp [fe], by simp, hp.succ fun _ => hee⟩
  · intro env n h ei hj
    rw [hJ] at hj
    obtain ⟨fe, -, hp⟩ := hj
    simp only [FE_cons, FE_nil, and_true] at fe
    simp +contextual -implicitDefEqProofs [ei, fe]
    rw [← hv, ixOf_none fun j hj => hp j hj hj]

theorem w_slices_Index_Lstring_string {C : Ctx} {x : AV} {a : List (List UInt8)} (b : (List UInt8)) (ha : dStrs x = some a) (hl : a.length ≤ LI) :
    FnW C c_slices_Index_Lstring_string r_slices_Index_Lstring_string [x, .str b] (.int .i64 (ixOf (b == ·) a)) := by
  unfold FnW c_slices_Index_Lstring_string r_slices_Index_Lstring_string
  generalize hv : AV.int .i64 (ixOf (b == ·) a) = v
  simp +contextual -implicitDefEqProofs [dSl_len ha]
  obtain ⟨J, hJ⟩ : ∃ J : Nat → Env → Nat → Hp → Prop, J = Scan [(0, x), (1, .str b), (7, .int .i64 a.length)] [] fun j => ∀ hj : j < a.length, (b == a[j]) = false := ⟨_, rfl⟩
  refine Wk_scan a.length 8 0 J hl (Nat.zero_le _) (by simp) (hJ ▸ ⟨by simp, by simp, Upto.zero⟩) ?_ ?_
  · intro i env n h _ hi hw ei hj
    rw [hJ] at hj
    obtain ⟨fe, -, hp⟩ := hj
    simp only [FE_cons, FE_nil, and_true] at fe
    obtain ⟨ca, h1, h2⟩ := dSl_at ha hi
    obtain rfl := dStr_inv h2
    simp +contextual -implicitDefEqProofs [ei, fe, hi, h1, hw]
    refine Ck_mk ?_ ?_ <;> intro hc
    · have hee : (b == a[i]) = true := by simpa using hc
      simp +contextual -implicitDefEqProofs [ei]
      rw [← hv, ixOf_at hi (fun j hj => hp j hj _) hee]
    · have hee : (b == a[i]) = false := by simpa using hc
      simp +contextual -implicitDefEqProofs [ei, fe, hw]
      rw [hJ]
      exact ⟨by simp [fe], by simp, hp.succ fun _ => hee⟩
  · intro env n h ei hj
    rw [hJ] at hj
    obtain ⟨fe, -, hp⟩ := hj
    simp only [FE_cons, FE_nil, and_true] at fe
    simp +contextual -implicitDefEqProofs [ei, fe]
    rw [← hv, ixOf_none fun j hj => hp j hj hj]

theorem w_ref05_In {C : Ctx} {x : AV} {a : List Int} (b : Int) (ha : dInts x = some a) (hl : a.length ≤ LI) :
    FnW C c_ref05_In r_ref05_In [x, .int .i64 b] (.bool (a.contains b)) := by
  unfold FnW c_ref05_In r_ref05_In
  generalize hv : AV.bool (a.contains b) = v
  simp +contextual -implicitDefEqProofs [dSl_len ha]
  obtain ⟨J, hJ⟩ : ∃ J : Nat → Env → Nat → Hp → Prop, J = Scan [(0, x), (1, .int .i64 b)] [] fun j => ∀ hj : j < a.length, (a[j] == b) = false := ⟨_, rfl⟩
  refine Wk_scan a.length 5 0 J hl (Nat.zero_le _) (by simp) (hJ ▸ ⟨by simp, by simp, Upto.zero⟩) ?_ ?_
  · intro i env n h _ hi hw ei hj
    rw [hJ] at hj
    obtain ⟨fe, -, hp⟩ := hj
    simp only [FE_cons, FE_nil, and_true] at fe
    obtain ⟨ca, h1, h2⟩ := dSl_at ha hi
    obtain rfl := dInt_inv h2
    simp +contextual -implicitDefEqProofs [ei, fe, hi, h1, hw, dSl_len ha]
    refine Ck_mk ?_ ?_ <;> intro hc
    · have hee : a.contains b = true := by
        rw [List.contains_iff_mem]
        have : a[i] = b := by simpa using hc
        exact this ▸ List.getElem_mem hi
      simp +contextual -implicitDefEqProofs
      rw [← hv, hee]
    · have hee : (a[i] == b) = false := by simpa using hc
      simp +contextual -implicitDefEqProofs [ei, fe, hw]
      rw [hJ]
      exact ⟨by simp [fe], by simp, hp.succ fun _ => hee⟩
  · intro env n h ei hj
    rw [hJ] at hj
    obtain ⟨fe, -, hp⟩ := hj
    simp only [FE_cons, FE_nil, and_true] at fe
    have : a.contains b = false := by
      rw [Bool.eq_false_iff]
      intro hc
      rw [List.contains_iff_mem] at hc
      obtain ⟨j, hj, e⟩ := List.mem_iff_getElem.1 hc
      have := hp j hj hj
      simp [e] at this
    simp +contextual -implicitDefEqProofs [ei, fe, dSl_len ha]
    rw [← hv, this]

theorem w_ref43_inText {C : Ctx} {x : AV} {a : List (List UInt8)} (b : (List UInt8)) (ha : dStrs x = some a) (hl : a.length ≤ LI) :
    FnW C c_ref43_inText r_ref43_inText [x, .str b] (.bool (a.contains b)) := by
  unfold FnW c_ref43_inText r_ref43_inText
  generalize hv : AV.bool (a.contains b) = v
  simp +contextual -implicitDefEqProofs [dSl_len ha]
  obtain ⟨J, hJ⟩ : ∃ J : Nat → Env → Nat → Hp → Prop, J = Scan [(0, x), (1, .str b)] [] fun j => ∀ hj : j < a.length, (a[j] == b) = false := ⟨_, rfl⟩
  refine Wk_scan a.length 5 0 J hl (Nat.zero_le _) (by simp) (hJ ▸ ⟨by simp, by simp, Upto.zero⟩) ?_ ?_
  · intro i env n h _ hi hw ei hj
    rw [hJ] at hj
    obtain ⟨fe, -, hp⟩ := hj
    simp only [FE_cons, FE_nil, and_true] at fe
    obtain ⟨ca, h1, h2⟩ := dSl_at ha hi
    obtain rfl := dStr_inv h2
    simp +contextual -implicitDefEqProofs [ei, fe, hi, h1, hw, dSl_len ha]
    refine Ck_mk ?_ ?_ <;> intro hc
    · have hee : a.contains b = true := by
        rw [List.contains_iff_mem]
        have : a[i] = b := by simpa using hc
        exact this ▸ List.getElem_mem hi
      simp +contextual -implicitDefEqProofs
      rw [← hv, hee]
    · have hee : (a[i] == b) = false := by simpa using hc
      simp +contextual -implicitDefEqProofs [ei, fe, hw]
      rw [hJ]
      exact ⟨by simp [fe], by simp, hp.succ fun _ => hee⟩
  · intro env n h ei hj
    rw [hJ] at hj
    obtain ⟨fe, -, hp⟩ := hj
    simp only [FE_cons, FE_nil, and_true] at fe
    have : a.contains b = false := by
      rw [Bool.eq_false_iff]
      intro hc
      rw [List.contains_iff_mem] at hc
      obtain ⟨j, hj, e⟩ := List.mem_iff_getElem.1 hc
      have := hp j hj hj
      simp [e] at this
    simp +contextual -implicitDefEqProofs [ei, fe, dSl_len ha]
    rw [← hv, this]

theorem any_eq_contains {α : Type} [BEq α] [LawfulBEq α] (b : α) (l : List α) : l.any (b == ·) = l.contains b := by
  induction l with
  | nil => rfl
  | cons x r ih => simp [List.any_cons, ih]
theorem w_slices_Contains_Lint_int {C : Ctx} (hE : C.TP i_slices_Index_Lint_int = some (ixG dInts aInt)) {x : AV} {a : List Int} (b : Int) (ha : dInts x = some a) (hl : a.length ≤ LI) :
    FnW C c_slices_Contains_Lint_int r_slices_Contains_Lint_int [x, .int .i64 b] (.bool (a.contains b)) := by
  unfold FnW c_slices_Contains_Lint_int r_slices_Contains_Lint_int
  rw [← any_eq_contains, ← ixOf_any]
  simp +contextual -implicitDefEqProofs [callA_fix hE, ixG, ha, hl, aInt, dSl_fix ha]
theorem w_slices_Contains_Lstring_string {C : Ctx} (hE : C.TP i_slices_Index_Lstring_string = some (ixG dStrs aStr)) {x : AV} {a : List (List UInt8)} (b : List UInt8) (ha : dStrs x = some a) (hl : a.length ≤ LI) :
    FnW C c_slices_Contains_Lstring_string r_slices_Contains_Lstring_string [x, .str b] (.bool (a.contains b)) := by
  unfold FnW c_slices_Contains_Lstring_string r_slices_Contains_Lstring_string
  rw [← any_eq_contains, ← ixOf_any]
  simp +contextual -implicitDefEqProofs [callA_fix hE, ixG, ha, hl, aStr, dSl_fix ha]
end Go.Pv.T
namespace Go.Pv.T
open Go Go.Pv
set_option linter.unusedSimpArgs false
set_option linter.unusedVariables false

/-! ### groups and rules -/
structure Group where
  name : List UInt8
  users : List Int
  groups : List (List UInt8)
  deriving DecidableEq
structure Rule where
  allow : Bool
  group : List UInt8
  repo : List UInt8
  glob : List UInt8
  deriving DecidableEq
def dGroup : List AV → Option Group
  | [.str nm, u, g] => match dInts u, dStrs g with
    | some us, some gs => if us.length ≤ LI ∧ gs.length ≤ LI then some ⟨nm, us, gs⟩ else none
    | _, _ => none
  | _ => none
def dRule : List AV → Option Rule
  | [.bool a, .str g, .str r, .str l] => some ⟨a, g, r, l⟩
  | _ => none
abbrev dGroups := dSl 3 dGroup
abbrev dRules := dSl 4 dRule
theorem dGroup_inv {c g} (h : dGroup c = some g) : ∃ u gs, c = [.str g.name, u, gs] ∧ dInts u = some g.users ∧ dStrs gs = some g.groups ∧ g.users.length ≤ LI ∧ g.groups.length ≤ LI := by
  unfold dGroup at h
  split at h
  · split at h
    · split at h
      · rename_i h1 h2 h3; cases h; exact ⟨_, _, rfl, h1, h2, h3.1, h3.2⟩
      · cases h
    · cases h
  · cases h
theorem dRule_inv {c r} (h : dRule c = some r) : c = [.bool r.allow, .str r.group, .str r.repo, .str r.glob] := by
  unfold dRule at h
  split at h
  · cases h; rfl
  · cases h
theorem w_access_sameGroup {C : Ctx} (h1 : C.TP i_slices_Equal_Lint_int = some (eqG dInts)) (h2 : C.TP i_slices_Equal_Lstring_string = some (eqG dStrs)) {c d : List AV} {a b : Group} (ha : dGroup c = some a) (hb : dGroup d = some b) :
    FnW C c_access_sameGroup r_access_sameGroup [.agg c, .agg d] (.bool (a == b)) := by
  unfold FnW c_access_sameGroup r_access_sameGroup
  obtain ⟨u, gs, rfl, a1, a2, a3, a4⟩ := dGroup_inv ha
  obtain ⟨v, hs, rfl, b1, b2, b3, b4⟩ := dGroup_inv hb
  have e : (a == b) = (a.name == b.name && a.users == b.users && a.groups == b.groups) := by
    rw [Bool.eq_iff_iff]; cases a; cases b; simp [and_assoc]
  rw [e]
  generalize hv : AV.bool (a.name == b.name && a.users == b.users && a.groups == b.groups) = w
  simp +contextual -implicitDefEqProofs [boxA, dSl_one a1, dSl_one a2, dSl_one b1, dSl_one b2, callA_fix h1, callA_fix h2, eqG, a1, a2, b1, b2, a3, a4, dSl_fix a1, dSl_fix a2, dSl_fix b1, dSl_fix b2]
  rw [← hv]
end Go.Pv.T
namespace Go.Pv.T
open Go Go.Pv
set_option linter.unusedSimpArgs false
set_option linter.unusedVariables false

def G_EqualFunc_Group : List AV → Option AV
  | [x, y, .fn f []] => if f = i_access_sameGroup then eqG dGroups [x, y] else none
  | _ => none
def G_sameGroup : List AV → Option AV
  | [.agg c, .agg d] => match dGroup c, dGroup d with
    | some a, some b => some (.bool (a == b))
    | _, _ => none
  | _ => none
theorem G_sameGroup_of {c d : List AV} {a b : Group} (ha : dGroup c = some a) (hb : dGroup d = some b) : G_sameGroup [.agg c, .agg d] = some (.bool (a == b)) := by simp [G_sameGroup, ha, hb]
theorem dGroup_fix {c g} (h : dGroup c = some g) : ∀ v ∈ c, Fix1 v := by
  obtain ⟨u, gs, rfl, a1, a2, a3, a4⟩ := dGroup_inv h
  intro v hv
  simp at hv
  rcases hv with rfl | rfl | rfl
  · simp
  · exact dSl_fix1 a1
  · exact dSl_fix1 a2
theorem dGroup_len {c g} (h : dGroup c = some g) : c.length = 3 := by
  obtain ⟨u, gs, rfl, a1, a2, a3, a4⟩ := dGroup_inv h; rfl
theorem dGroup_ones {c g} (h : dGroup c = some g) : c.all AV.one = true := by
  obtain ⟨u, gs, rfl, a1, a2, a3, a4⟩ := dGroup_inv h
  simp [dSl_one a1, dSl_one a2]
theorem take_all {c : List AV} {k : Nat} (h : c.length = k) : c.take k = c := by rw [← h]; simp
theorem w_slices_EqualFunc {C : Ctx} (hE : C.TP i_access_sameGroup = some G_sameGroup) {x y : AV} {a b : List Group} (ha : dGroups x = some a) (hb : dGroups y = some b) (hl : a.length ≤ LI) :
    FnW C c_slices_EqualFunc_LGroup_LGroup_Group_Group r_slices_EqualFunc_LGroup_LGroup_Group_Group [x, y, .fn i_access_sameGroup []] (.bool (a == b)) := by
  unfold FnW c_slices_EqualFunc_LGroup_LGroup_Group_Group r_slices_EqualFunc_LGroup_LGroup_Group_Group
  generalize hv : AV.bool (a == b) = v
  simp +contextual -implicitDefEqProofs [dSl_len ha, dSl_len hb]
  refine Ck_mk ?_ ?_ <;> intro hq
  · have hne : a.length ≠ b.length := by simp at hq; omega
    simp +contextual -implicitDefEqProofs
    rw [← hv, beq_len hne]
  · have heq : a.length = b.length := by simp at hq; omega
    simp +contextual -implicitDefEqProofs [dSl_len ha, dSl_len hb]
    obtain ⟨J, hJ⟩ : ∃ J : Nat → Env → Nat → Hp → Prop, J = Scan [(0, x), (1, y), (2, .fn i_access_sameGroup []), (15, x), (16, .int .i64 a.length)] [] fun j => a[j]? = b[j]? := ⟨_, rfl⟩
    refine Wk_scan a.length 17 0 J hl (Nat.zero_le _) (by simp) (hJ ▸ ⟨by simp, by simp, Upto.zero⟩) ?_ ?_
    · intro i env n h _ hi hw ei hj
      rw [hJ] at hj
      obtain ⟨fe, -, hp⟩ := hj
      simp only [FE_cons, FE_nil, and_true] at fe
      obtain ⟨ca, h1, h2⟩ := dSl_at ha hi
      obtain ⟨cb, h3, h4⟩ := dSl_at hb (heq ▸ hi)
      simp +contextual -implicitDefEqProofs [ei, fe, hi, h1, h3, hw, dGroup_len h2, dGroup_len h4, dGroup_ones h2, dGroup_ones h4, take_all (dGroup_len h2), take_all (dGroup_len h4), callA_fix hE, dGroup_fix h2, dGroup_fix h4, G_sameGroup_of h2 h4]
      refine Ck_mk ?_ ?_ <;> intro hc
      · have hne : a[i] ≠ b[i] := by simpa using hc
        simp +contextual -implicitDefEqProofs
        rw [← hv, beq_at hi (heq ▸ hi) hne]
      · have hee : a[i] = b[i] := by simpa using hc
        simp +contextual -implicitDefEqProofs [ei, fe, hw]
        rw [hJ]
        exact ⟨by simp [fe], by simp, hp.succ (by rw [List.getElem?_eq_getElem hi, List.getElem?_eq_getElem (heq ▸ hi), hee])⟩
    · intro env n h ei hj
      rw [hJ] at hj
      obtain ⟨fe, -, hp⟩ := hj
      simp only [FE_cons, FE_nil, and_true] at fe
      have := beq_all heq fun j hj => by have := hp j hj; simp only [List.getElem?_eq_getElem hj, List.getElem?_eq_getElem (heq ▸ hj)] at this; exact Option.some.inj this
      simp +contextual -implicitDefEqProofs [ei, fe]
      rw [← hv, this]
theorem dRule_eq {c d : List AV} {a b : Rule} (ha : dRule c = some a) (hb : dRule d = some b) : binC .neq (.a [.b, .s, .s, .s]) (.agg c) (.agg d) = some (.bool (!(a == b))) := by
  obtain rfl := dRule_inv ha
  obtain rfl := dRule_inv hb
  have e : (a == b) = (a.allow == b.allow && (a.group == b.group && (a.repo == b.repo && a.glob == b.glob))) := by
    rw [Bool.eq_iff_iff]; cases a; cases b; simp
  rw [e]
  simp [binC, binG, eqC, fitL, kindOf, eqL, eq1]
theorem dRule_len {c g} (h : dRule c = some g) : c.length = 4 := by obtain rfl := dRule_inv h; rfl
theorem dRule_ones {c g} (h : dRule c = some g) : c.all AV.one = true := by obtain rfl := dRule_inv h; rfl
theorem w_slices_Equal_rules {C : Ctx} {x y : AV} {a b : List Rule} (ha : dRules x = some a) (hb : dRules y = some b) (hl : a.length ≤ LI) :
    FnW C c_slices_Equal_LRule_Rule r_slices_Equal_LRule_Rule [x, y] (.bool (a == b)) := by
  unfold FnW c_slices_Equal_LRule_Rule r_slices_Equal_LRule_Rule
  generalize hv : AV.bool (a == b) = v
  simp +contextual -implicitDefEqProofs [dSl_len ha, dSl_len hb]
  refine Ck_mk ?_ ?_ <;> intro hq
  · have hne : a.length ≠ b.length := by simp at hq; omega
    simp +contextual -implicitDefEqProofs
    rw [← hv, beq_len hne]
  · have heq : a.length = b.length := by simp at hq; omega
    simp +contextual -implicitDefEqProofs [dSl_len ha, dSl_len hb]
    obtain ⟨J, hJ⟩ : ∃ J : Nat → Env → Nat → Hp → Prop, J = Scan [(0, x), (1, y), (12, .int .i64 a.length)] [] fun j => a[j]? = b[j]? := ⟨_, rfl⟩
    refine Wk_scan a.length 13 0 J hl (Nat.zero_le _) (by simp) (hJ ▸ ⟨by simp, by simp, Upto.zero⟩) ?_ ?_
    · intro i env n h _ hi hw ei hj
      rw [hJ] at hj
      obtain ⟨fe, -, hp⟩ := hj
      simp only [FE_cons, FE_nil, and_true] at fe
      obtain ⟨ca, h1, h2⟩ := dSl_at ha hi
      obtain ⟨cb, h3, h4⟩ := dSl_at hb (heq ▸ hi)
      simp +contextual -implicitDefEqProofs [ei, fe, hi, h1, h3, hw, dRule_len h2, dRule_len h4, take_all (dRule_len h2), take_all (dRule_len h4), dRule_eq h2 h4]
      refine Ck_mk ?_ ?_ <;> intro hc
      · have hne : a[i] ≠ b[i] := by simpa using hc
        simp +contextual -implicitDefEqProofs
        rw [← hv, beq_at hi (heq ▸ hi) hne]
      · have hee : a[i] = b[i] := by simpa using hc
        simp +contextual -implicitDefEqProofs [ei, fe, hw]
        rw [hJ]
        exact ⟨by simp [fe], by simp, hp.succ (by rw [List.getElem?_eq_getElem hi, List.getElem?_eq_getElem (heq ▸ hi), hee])⟩
    · intro env n h ei hj
      rw [hJ] at hj
      obtain ⟨fe, -, hp⟩ := hj
      simp only [FE_cons, FE_nil, and_true] at fe
      have := beq_all heq fun j hj => by have := hp j hj; simp only [List.getElem?_eq_getElem hj, List.getElem?_eq_getElem (heq ▸ hj)] at this; exact Option.some.inj this
      simp +contextual -implicitDefEqProofs [ei, fe]
      rw [← hv, this]
structure Policy where
  groups : List Group
  rules : List Rule
  deriving DecidableEq
def dPolicy : AV → Option Policy
  | .agg [x, y] => match dGroups x, dRules y with
    | some g, some r => if g.length ≤ LI ∧ r.length ≤ LI ∧ (∀ x ∈ r, x.repo.length ≤ LI) then some ⟨g, r⟩ else none
    | _, _ => none
  | _ => none
theorem dPolicy_inv {v p} (h : dPolicy v = some p) : ∃ x y, v = .agg [x, y] ∧ dGroups x = some p.groups ∧ dRules y = some p.rules ∧ p.groups.length ≤ LI ∧ p.rules.length ≤ LI := by
  unfold dPolicy at h
  split at h
  · split at h
    · split at h
      · rename_i h1 h2 h3; cases h; exact ⟨_, _, rfl, h1, h2, h3.1, h3.2.1⟩
      · cases h
    · cases h
  · cases h
theorem dPolicy_len {v p} (h : dPolicy v = some p) : ∀ r ∈ p.rules, r.repo.length ≤ LI := by
  unfold dPolicy at h
  split at h
  · split at h
    · split at h
      · rename_i h1 h2 h3; cases h; exact h3.2.2
      · cases h
    · cases h
  · cases h
def G_Same : List AV → Option AV
  | [v, w] => match dPolicy v, dPolicy w with
    | some p, some q => some (.bool (p == q))
    | _, _ => none
  | _ => none
theorem policy_eq (p q : Policy) : (p == q) = (p.groups == q.groups && p.rules == q.rules) := by
  rw [Bool.eq_iff_iff]; cases p; cases q; simp
theorem w_access_Same {C : Ctx} (h1 : C.TP i_slices_EqualFunc_LGroup_LGroup_Group_Group = some G_EqualFunc_Group) (h2 : C.TP i_slices_Equal_LRule_Rule = some (eqG dRules)) {v w : AV} {p q : Policy} (hp : dPolicy v = some p) (hq : dPolicy w = some q) :
    FnW C c_access_Same r_access_Same [v, w] (.bool (p == q)) := by
  unfold FnW c_access_Same r_access_Same
  obtain ⟨x, y, rfl, a1, a2, a3, a4⟩ := dPolicy_inv hp
  obtain ⟨x', y', rfl, b1, b2, b3, b4⟩ := dPolicy_inv hq
  rw [policy_eq]
  generalize hv : AV.bool (p.groups == q.groups && p.rules == q.rules) = u
  simp +contextual -implicitDefEqProofs [boxA, dSl_one a1, dSl_one a2, dSl_one b1, dSl_one b2, callA_fix h1, callA_fix h2, G_EqualFunc_Group, eqG, a1, a2, b1, b2, a3, a4, dSl_fix a1, dSl_fix a2, dSl_fix b1, dSl_fix b2]
  rw [← hv]
end Go.Pv.T
