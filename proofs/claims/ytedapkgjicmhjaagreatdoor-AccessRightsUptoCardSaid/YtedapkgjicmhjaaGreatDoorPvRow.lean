/- A part of the proof that AccessRights returns true wherever its input is of bulk at most 1048576: what the functions that it reaches answer. No theorem of the claim stands here. -/
import Derived.Test.YtedapkgjicmhjaaGreatDoorPvLaw
import GoSem.ClaimChange
namespace Go.Pv
open Go Go.RowKit
set_option linter.unusedSimpArgs false
set_option linter.unusedVariables false

/-- How much a value holds, each place counted as often as it is reached. -/
def bulk : AV → Nat
  | .str s => s.length + 1
  | .lst _ es _ => bulkE es + 1
  | .cptr c => bulkL c + 1
  | .agg c => bulkL c + 1
  | _ => 1
where
  bulkL : List AV → Nat
    | [] => 0
    | x :: r => bulk x + bulkL r
  bulkE : List (List AV) → Nat
    | [] => 0
    | e :: r => bulkL e + bulkE r
abbrev bulkL := bulk.bulkL
abbrev bulkE := bulk.bulkE
theorem bulkL_append (a b : List AV) : bulkL (a ++ b) = bulkL a + bulkL b := by
  induction a with
  | nil => simp [bulkL, bulk.bulkL]
  | cons x r ih => simp only [List.cons_append, bulkL, bulk.bulkL] at ih ⊢; omega

def TypedFs (T : TypeId → List AV → Prop) : List TypeId → List AV → Prop
  | [], xs => xs = []
  | t :: r, xs => ∃ a b, xs = a ++ b ∧ T t a ∧ TypedFs T r b
/-- Cells of a value of type t. -/
def Typed (P : Program) : Nat → TypeId → List AV → Prop
  | 0, _, _ => False
  | n + 1, t, xs => match P.underlying t with
    | some .bool => ∃ b, xs = [.bool b]
    | some (.int k) => ∃ i, xs = [.int k i] ∧ k.min ≤ i ∧ i ≤ k.max
    | some .string => ∃ s, xs = [.str s]
    | some (.pointer e) => xs = [.nilp] ∨ ∃ c, xs = [.cptr c] ∧ Typed P n e c
    | some (.slice e) => xs = [.nils] ∨ ∃ es full, xs = [.lst (P.cellsOf e) es full] ∧ ∀ c ∈ es, Typed P n e c
    | some (.struct fs) => TypedFs (Typed P n) (fs.toList.map (·.type)) xs
    | some (.array m e) => TypedFs (Typed P n) (List.replicate m e) xs
    | _ => False

/-- Types of plain data, to a depth: the fields of structs lie one after the other; no element is of size 0. -/
def tilesB (P : Program) : List Field → Nat → Nat → Bool
  | [], k, z => k == z
  | f :: r, k, z => f.offset == k && tilesB P r (k + P.cellsOf f.type) z
def plainT (P : Program) : Nat → TypeId → Bool
  | 0, _ => true
  | n + 1, t => match P.underlying t with
    | some .bool => true
    | some (.int _) => true
    | some .string => true
    | some (.pointer e) => P.cellsOf e != 0 && plainT P n e
    | some (.slice e) => P.cellsOf e != 0 && plainT P n e
    | some (.struct fs) => tilesB P fs.toList 0 (P.cellsOf t) && fs.toList.all fun f => plainT P n f.type
    | some (.array m e) => m * P.cellsOf e == P.cellsOf t && plainT P n e
    | _ => false

structure BulkLike {H : Type} (B : DataW H → Nat) (BA : List (DataW H) → Nat) : Prop where
  str : ∀ l, B (.lit (.string l)) = l.length + 1
  lit : ∀ l, 1 ≤ B (.lit l)
  nil : 1 ≤ B .nil
  ptr : ∀ d, B (.ptr d) = B d + 1
  slice : ∀ x y, B (.slice x y) = BA x + BA y + 1
  agg : ∀ x, B (.agg x) = BA x + 1
  nilA : BA [] = 0
  consA : ∀ d r, BA (d :: r) = B d + BA r

theorem mapM_get {α β : Type} {f : α → Option β} : ∀ {l : List α} {r : List β}, l.mapM f = some r → r.length = l.length ∧ ∀ (i : Nat) (a : α), l[i]? = some a → ∃ b, r[i]? = some b ∧ f a = some b := by
  intro l
  induction l with
  | nil => intro r h; simp at h; subst h; exact ⟨rfl, fun i a h => by simp at h⟩
  | cons x l ih =>
    intro r h
    rw [List.mapM_cons] at h
    simp only [Option.bind_eq_bind, Option.bind_eq_some_iff, Option.pure_def, Option.some.injEq] at h
    obtain ⟨b, h1, r', h2, rfl⟩ := h
    obtain ⟨k1, k2⟩ := ih h2
    refine ⟨by simp [k1], fun i a ha => ?_⟩
    cases i with
    | zero => simp at ha; subst ha; exact ⟨b, by simp, h1⟩
    | succ i => exact k2 i a (by simpa using ha)

def J (w : World) : Nat → Prop := fun b => b < w.heap.size
theorem cells_get {w : World} {a : Addr} {n : Nat} {l : List Value} (h : w.cells? 0 a n = some l) : l.length = n ∧ ∀ i, i < n → w.cell? (a.add i) = some (l.getD i undef) := by
  unfold World.cells? at h
  rw [if_pos (Nat.zero_le _)] at h
  obtain ⟨h1, h2⟩ := mapM_get h
  refine ⟨by simpa using h1, fun i hi => ?_⟩
  obtain ⟨b, k1, k2⟩ := h2 i i (by simp [hi])
  rw [k2]
  simp [List.getD_eq_getElem?_getD, k1]
theorem cell_block {w : World} {a : Addr} {v : Value} (h : w.cell? a = some v) : a.block < w.heap.size := by
  unfold World.cell? at h
  rcases Nat.lt_or_ge a.block w.heap.size with q | q
  · exact q
  · simp [Array.getElem?_eq_none q] at h

/-- What the reading of cells gives. -/
def Got {H : Type} (P : Program) (w : World) (B : DataW H → Nat) (n : Nat) (t : TypeId) (cs : List Value) (d : DataW H) : Prop :=
  ∃ xs, VL (J w) w phi0 xs cs ∧ xs.all AV.one = true ∧ Typed P n t xs ∧ bulkL xs ≤ B d

theorem VL.take_drop {im : Nat → Prop} {w : World} {φ : Phi} {a b : List AV} {cs : List Value} (h1 : VL im w φ a (cs.take a.length)) (h2 : VL im w φ b (cs.drop a.length)) : VL im w φ (a ++ b) cs := by
  have := h1.append h2
  rwa [List.take_append_drop] at this

/-- The fields of a struct, one after the other. -/
theorem got_fields {H : Type} {P : Program} {w : World} {B : DataW H → Nat} {BA : List (DataW H) → Nat} (hB : BulkLike B BA) {n : Nat} {rd : TypeId → List Value → Option (DataW H × List MemPlace)}
    (cs : List Value) : ∀ (fs : List Field) (k : Nat) (ys : List (DataW H × List MemPlace)), tilesB P fs k cs.length = true → k ≤ cs.length →
      (fs.mapM fun f => rd f.type ((cs.drop f.offset).take (P.cellsOf f.type))) = some ys → (∀ f ∈ fs, ∀ l x, rd f.type l = some x → Got P w B n f.type l x.1) →
      ∃ xs, VL (J w) w phi0 xs (cs.drop k) ∧ xs.all AV.one = true ∧ TypedFs (Typed P n) (fs.map (·.type)) xs ∧ bulkL xs ≤ BA (ys.map (·.1)) := by
  intro fs
  induction fs with
  | nil =>
    intro k ys ht hk hm _
    simp [tilesB] at ht
    subst ht
    simp at hm
    subst hm
    exact ⟨[], by simpa using VL.nil, rfl, rfl, by simp [bulkL, bulk.bulkL]⟩
  | cons f r ih =>
    intro k ys ht hk hm hrd
    simp only [tilesB, Bool.and_eq_true, beq_iff_eq] at ht
    obtain ⟨h1, h2⟩ := ht
    rw [List.mapM_cons] at hm
    simp only [Option.bind_eq_bind, Option.bind_eq_some_iff, Option.pure_def, Option.some.injEq] at hm
    obtain ⟨y, hy, ys', hys, rfl⟩ := hm
    obtain ⟨a, a1, a2, a3, a4⟩ := hrd f (by simp) _ _ hy
    have hle : ∀ (l : List Field) (k : Nat), tilesB P l k cs.length = true → k ≤ cs.length := by
      intro l
      induction l with
      | nil => intro k h; simp [tilesB] at h; omega
      | cons g l ihl => intro k h; simp only [tilesB, Bool.and_eq_true] at h; have := ihl _ h.2; omega
    have hk' := hle r _ h2
    obtain ⟨b, b1, b2, b3, b4⟩ := ih _ ys' h2 hk' hys fun g hg => hrd g (by simp [hg])
    have hal : a.length = P.cellsOf f.type := by
      have := a1.1
      simp at this
      omega
    refine ⟨a ++ b, VL.take_drop ?_ ?_, by simp [a2, b2], ⟨a, b, rfl, a3, b3⟩, ?_⟩
    · rw [hal, ← h1]; exact a1
    · rw [hal, List.drop_drop]; exact b1
    · rw [bulkL_append, List.map_cons, hB.consA]; omega

theorem got_array {H : Type} {P : Program} {w : World} {B : DataW H → Nat} {BA : List (DataW H) → Nat} (hB : BulkLike B BA) {n : Nat} {e : TypeId} {rd : List Value → Option (DataW H × List MemPlace)}
    (cs : List Value) (hrd : ∀ l x, rd l = some x → Got P w B n e l x.1) : ∀ (m k : Nat) (ys : List (DataW H × List MemPlace)), (k + m) * P.cellsOf e = cs.length →
      ((List.range' k m).mapM fun i => rd ((cs.drop (i * P.cellsOf e)).take (P.cellsOf e))) = some ys →
      ∃ xs, VL (J w) w phi0 xs (cs.drop (k * P.cellsOf e)) ∧ xs.all AV.one = true ∧ TypedFs (Typed P n) (List.replicate m e) xs ∧ bulkL xs ≤ BA (ys.map (·.1)) := by
  intro m
  induction m with
  | zero =>
    intro k ys hk hm
    simp at hm
    subst hm
    rw [Nat.add_zero] at hk
    exact ⟨[], by rw [hk]; simpa using VL.nil, rfl, rfl, by simp [bulkL, bulk.bulkL]⟩
  | succ m ih =>
    intro k ys hk hm
    rw [List.range'_succ, List.mapM_cons] at hm
    simp only [Option.bind_eq_bind, Option.bind_eq_some_iff, Option.pure_def, Option.some.injEq] at hm
    obtain ⟨y, hy, ys', hys, rfl⟩ := hm
    obtain ⟨a, a1, a2, a3, a4⟩ := hrd _ _ hy
    obtain ⟨b, b1, b2, b3, b4⟩ := ih (k + 1) ys' (by rw [← hk]; congr 1; omega) hys
    have hk' : (k + 1) * P.cellsOf e ≤ cs.length := by rw [← hk]; exact Nat.mul_le_mul_right _ (by omega)
    rw [Nat.add_mul, Nat.one_mul] at hk'
    have hal : a.length = P.cellsOf e := by
      have := a1.1
      simp at this
      omega
    refine ⟨a ++ b, VL.take_drop ?_ ?_, by simp [a2, b2], ⟨a, b, rfl, a3, b3⟩, ?_⟩
    · rw [hal]; exact a1
    · rw [hal, List.drop_drop]
      have : k * P.cellsOf e + P.cellsOf e = (k + 1) * P.cellsOf e := by rw [Nat.add_mul, Nat.one_mul]
      rw [this]; exact b1
    · rw [bulkL_append, List.map_cons, hB.consA]; omega

theorem got_elems {H : Type} {P : Program} {w : World} {B : DataW H → Nat} {BA : List (DataW H) → Nat} (hB : BulkLike B BA) {n : Nat} {e : TypeId} {rd : List Value → Option (DataW H × List MemPlace)} (hrd : ∀ l x, rd l = some x → Got P w B n e l x.1) (a : Addr) : ∀ (m k : Nat) (ys : List (DataW H × List MemPlace)),
      ((List.range' k m).mapM fun i => (w.cells? 0 (a.add (i * P.cellsOf e)) (P.cellsOf e)).bind rd) = some ys →
      ∃ es : List (List AV), es.length = m ∧ (∀ i, i < m → (es.getD i []).length = P.cellsOf e) ∧ (∀ i o, i < m → o < P.cellsOf e → ∃ v, w.cell? (a.add ((k + i) * P.cellsOf e + o)) = some v ∧ V (J w) w phi0 ((es.getD i []).getD o .no) v ∧ ((es.getD i []).getD o .no).one = true) ∧
        (∀ c ∈ es, Typed P n e c) ∧ bulkE es ≤ BA (ys.map (·.1)) := by
  intro m
  induction m with
  | zero =>
    intro k ys hm
    simp at hm
    subst hm
    exact ⟨[], rfl, fun i hi => by omega, fun i o hi => by omega, by simp, by simp [bulkE, bulk.bulkE]⟩
  | succ m ih =>
    intro k ys hm
    rw [List.range'_succ, List.mapM_cons] at hm
    simp only [Option.bind_eq_bind, Option.bind_eq_some_iff, Option.pure_def, Option.some.injEq] at hm
    obtain ⟨y, ⟨l, hl, hy⟩, ys', hys, rfl⟩ := hm
    obtain ⟨c, a1, a2, a3, a4⟩ := hrd _ _ hy
    obtain ⟨l1, l2⟩ := cells_get hl
    obtain ⟨es, b1, b2, b3, b4, b5⟩ := ih (k + 1) ys' hys
    have hcl : c.length = P.cellsOf e := by rw [← a1.1, l1]
    refine ⟨c :: es, by simp [b1], fun i hi => ?_, fun i o hi ho => ?_, fun x hx => ?_, ?_⟩
    · cases i with
      | zero => simpa using hcl
      | succ i => simpa using b2 i (by omega)
    · cases i with
      | zero =>
        refine ⟨l.getD o undef, ?_, ?_, ?_⟩
        · rw [← l2 o ho, add_add]; simp
        · simpa using a1.2 o (by omega)
        · simpa using all_one a2 o (by omega)
      | succ i =>
        obtain ⟨v, q1, q2, q3⟩ := b3 i o (by omega) ho
        refine ⟨v, ?_, by simpa using q2, by simpa using q3⟩
        rw [show k + (i + 1) = k + 1 + i by omega]; exact q1
    · rcases List.mem_cons.1 hx with rfl | hx
      · exact a3
      · exact b4 x hx
    · simp only [bulkE, bulk.bulkE, List.map_cons, hB.consA] at b5 ⊢
      simp only [bulkL] at a4
      omega

theorem got {H : Type} {enc : TypeId × Value → H} {P : Program} {w : World} {B : DataW H → Nat} {BA : List (DataW H) → Nat} (hB : BulkLike B BA) : ∀ (n : Nat) (t : TypeId) (cs : List Value) (x : DataW H × List MemPlace), plainT P n t = true →
    DataW.trod enc P w 0 (fun _ => true) true n t cs = some x → Got P w B n t cs x.1 := by
  intro n
  induction n with
  | zero => intro t cs x _ h; simp [DataW.trod] at h
  | succ n ih =>
    intro t cs x hp h
    unfold DataW.trod at h
    unfold Got
    split at h
    case h_1 b hu =>
      cases h
      exact ⟨[.bool b], .cons (.bool b) VL.nil, rfl, by simp only [Typed, hu]; exact ⟨b, rfl⟩, by simpa [bulkL, bulk.bulkL, bulk] using hB.lit _⟩
    case h_2 k k' i hu =>
      split at h
      · rename_i hc
        obtain ⟨rfl, hwf⟩ := hc
        cases h
        simp only [Lit.wf, Bool.and_eq_true, decide_eq_true_eq] at hwf
        exact ⟨[.int k' i], .cons (.int k' i) VL.nil, rfl, by simp only [Typed, hu]; exact ⟨i, rfl, hwf.1, hwf.2⟩, by simpa [bulkL, bulk.bulkL, bulk] using hB.lit _⟩
      · cases h
    case h_4 str hu =>
      split at h
      · cases h
        exact ⟨[.str str.data.toList], .cons (.str _) VL.nil, rfl, by simp only [Typed, hu]; exact ⟨_, rfl⟩, by simp [bulkL, bulk.bulkL, bulk, hB.str]⟩
      · cases h
    case h_5 e hu =>
      cases h
      exact ⟨[.nilp], .cons .nilp VL.nil, rfl, by simp only [Typed, hu]; exact .inl trivial, by simpa [bulkL, bulk.bulkL, bulk] using hB.nil⟩
    case h_6 e a hu =>
      simp only [plainT, hu, Bool.and_eq_true, bne_iff_ne] at hp
      simp only [Option.map_eq_some_iff, Option.bind_eq_some_iff] at h
      obtain ⟨y, ⟨l, hl, hy⟩, rfl⟩ := h
      obtain ⟨c, a1, a2, a3, a4⟩ := ih e l y hp.2 hy
      obtain ⟨l1, l2⟩ := cells_get hl
      have hcl : c.length = P.cellsOf e := by rw [← a1.1, l1]
      refine ⟨[.cptr c], .cons (.cptr c a (fun o => l.getD o undef) (fun _ => ?_) (fun o ho => l2 o (by omega)) (fun o ho => a1.2 o ho) (fun o ho => all_one a2 o ho)) VL.nil, rfl, by simp only [Typed, hu]; exact .inr ⟨c, rfl, a3⟩, ?_⟩
      · have := cell_block (l2 0 (by omega))
        rwa [add_block] at this
      · simp only [hB.ptr]
        simp only [bulkL, bulk.bulkL, bulk] at a4 ⊢
        omega
    case h_7 e hu =>
      cases h
      exact ⟨[.nils], .cons .nils VL.nil, rfl, by simp only [Typed, hu]; exact .inl trivial, by simpa [bulkL, bulk.bulkL, bulk] using hB.nil⟩
    case h_8 e a len cap hu =>
      simp only [plainT, hu, Bool.and_eq_true, bne_iff_ne] at hp
      split at h
      · rename_i hc
        simp only [Option.bind_eq_some_iff, Option.map_eq_some_iff] at h
        obtain ⟨ys, hys, rest, hrest, rfl⟩ := h
        rw [List.range_eq_range'] at hys
        obtain ⟨es, b1, b2, b3, b4, b5⟩ := got_elems hB (n := n) (e := e) (fun l x hx => ih e l x hp.2 hx) a len 0 ys hys
        have hV : V (J w) w phi0 (.lst (P.cellsOf e) es false) (.slice (some a) es.length cap) := by
          refine .lst (P.cellsOf e) es false a cap (fun i o => (w.cell? (a.add (i * P.cellsOf e + o))).getD undef) (fun hne => ?_) (fun i hi => b2 i (by omega)) (fun i o hi ho => ?_) (fun i o hi ho => ?_) (fun i o hi ho => ?_) (by omega) (fun q => by cases q)
          · have h0 : 0 < len := by rw [← b1]; exact List.length_pos_iff.2 hne
            obtain ⟨v, q1, _⟩ := b3 0 0 h0 (Nat.pos_of_ne_zero hp.1)
            have := cell_block q1
            rwa [add_block] at this
          · obtain ⟨v, q1, _⟩ := b3 i o (by omega) ho
            rw [Nat.zero_add] at q1
            rw [q1]; rfl
          · obtain ⟨v, q1, q2, _⟩ := b3 i o (by omega) ho
            rw [Nat.zero_add] at q1
            rw [q1]; exact q2
          · obtain ⟨v, q1, _, q3⟩ := b3 i o (by omega) ho
            exact q3
        rw [b1] at hV
        refine ⟨[.lst (P.cellsOf e) es false], .cons hV VL.nil, rfl, by simp only [Typed, hu]; exact .inr ⟨es, false, rfl, b4⟩, ?_⟩
        simp only [hB.slice]
        simp only [bulkL, bulk.bulkL, bulk, bulkE] at b5 ⊢
        omega
      · cases h
    case h_9 cs' fs hu =>
      simp only [plainT, hu, Bool.and_eq_true, List.all_eq_true] at hp
      split at h
      · rename_i hlen
        simp only [Option.map_eq_some_iff] at h
        obtain ⟨ys, hys, rfl⟩ := h
        obtain ⟨xs, q1, q2, q3, q4⟩ := got_fields hB (n := n) _ fs.toList 0 ys (by rw [hlen]; exact hp.1) (Nat.zero_le _) hys fun f hf l x hx => ih f.type l x (hp.2 f hf) hx
        exact ⟨xs, by simpa using q1, q2, by simp only [Typed, hu]; exact q3, by simp only [hB.agg]; omega⟩
      · cases h
    case h_10 cs' m e hu =>
      simp only [plainT, hu, Bool.and_eq_true, beq_iff_eq] at hp
      split at h
      · rename_i hlen
        simp only [Option.map_eq_some_iff] at h
        obtain ⟨ys, hys, rfl⟩ := h
        rw [List.range_eq_range'] at hys
        obtain ⟨xs, q1, q2, q3, q4⟩ := got_array hB (n := n) (e := e) _ (fun l x hx => ih e l x hp.2 hx) m 0 ys (by rw [Nat.zero_add, hlen]; exact hp.1) hys
        exact ⟨xs, by simpa using q1, q2, by simp only [Typed, hu]; exact q3, by simp only [hB.agg]; omega⟩
      · cases h
    all_goals first | (cases h; done) | (rename_i hu; simp [plainT, hu] at hp)
end Go.Pv
