/- A part of the proof that AccessRights returns true wherever its input is of bulk at most 1048576: what the functions that it reaches answer. No theorem of the claim stands here. -/
import Derived.Test.YtedapkgjicmhjaaGreatDoorPvTab
import Derived.Test.YtedapkgjicmhjaaGreatDoorPvRow
namespace Go.Pv
open Go
set_option linter.unusedSimpArgs false
set_option linter.unusedVariables false

theorem bulk_pos (x : AV) : 1 ≤ bulk x := by cases x <;> simp [bulk]
theorem bulkL_len : ∀ c : List AV, c.length ≤ bulkL c := by
  intro c
  induction c with
  | nil => simp
  | cons x r ih => have := bulk_pos x; simp only [bulkL, bulk.bulkL, List.length_cons] at ih ⊢; omega
theorem bulkE_mem : ∀ {es : List (List AV)} {c : List AV}, c ∈ es → bulkL c ≤ bulkE es := by
  intro es
  induction es with
  | nil => intro c h; simp at h
  | cons e r ih =>
    intro c h
    simp only [List.mem_cons] at h
    simp only [bulkE, bulk.bulkE] at ih ⊢
    rcases h with rfl | h
    · simp only [bulkL]; omega
    · have := ih h; simp only [bulkL] at *; omega
theorem bulkE_len : ∀ {es : List (List AV)}, (∀ c ∈ es, c ≠ []) → es.length ≤ bulkE es := by
  intro es
  induction es with
  | nil => intro _; simp
  | cons e r ih =>
    intro h
    have h1 := ih fun c hc => h c (by simp [hc])
    have h2 := bulkL_len e
    have h3 : 0 < e.length := List.length_pos_iff.2 (h e (by simp))
    simp only [bulkE, bulk.bulkE, bulkL, List.length_cons] at *; omega
theorem seqO_all {α β : Type} {d : α → Option β} : ∀ {es : List α}, (∀ c ∈ es, ∃ b, d c = some b) → ∃ l, seqO d es = some l := by
  intro es
  induction es with
  | nil => intro _; exact ⟨[], rfl⟩
  | cons e r ih =>
    intro h
    obtain ⟨b, hb⟩ := h e (by simp)
    obtain ⟨l, hl⟩ := ih fun c hc => h c (by simp [hc])
    exact ⟨b :: l, by simp [seqO, hb, hl]⟩
/-- A slice of data. -/
theorem typed_slice {β : Type} {P : Program} {n t e sz B : Nat} {xs : List AV} {dec : List AV → Option β} (hu : P.underlying t = some (.slice e)) (hsz : P.cellsOf e = sz) (hne : ∀ c b, dec c = some b → c ≠ [])
    (hdec : ∀ c, Typed P n e c → bulkL c ≤ B → ∃ b, dec c = some b) (h : Typed P (n + 1) t xs) (hb : bulkL xs ≤ B) : ∃ x l, xs = [x] ∧ dSl sz dec x = some l ∧ l.length ≤ B := by
  simp only [Typed, hu] at h
  rcases h with rfl | ⟨es, full, rfl, h⟩
  · exact ⟨.nils, [], rfl, rfl, by simp⟩
  · have hb' : bulkE es + 1 ≤ B := by simpa [bulkL, bulk.bulkL, bulk] using hb
    obtain ⟨l, hl⟩ := seqO_all (d := dec) fun c hc => hdec c (h c hc) (by have := bulkE_mem hc; omega)
    refine ⟨_, l, rfl, by simp [dSl, hsz, hl], ?_⟩
    have h1 := seqO_len hl
    have h2 := bulkE_len (es := es) fun c hc => by
      obtain ⟨b, hb⟩ := hdec c (h c hc) (by have := bulkE_mem hc; omega)
      exact hne c b hb
    omega
theorem typed_str {P : Program} {n t : Nat} {xs : List AV} (hu : P.underlying t = some .string) (h : Typed P (n + 1) t xs) : ∃ s, xs = [.str s] := by simpa only [Typed, hu] using h
theorem typed_bool {P : Program} {n t : Nat} {xs : List AV} (hu : P.underlying t = some .bool) (h : Typed P (n + 1) t xs) : ∃ s, xs = [.bool s] := by simpa only [Typed, hu] using h
theorem typed_int {P : Program} {n t : Nat} {k : IntKind} {xs : List AV} (hu : P.underlying t = some (.int k)) (h : Typed P (n + 1) t xs) : ∃ i, xs = [.int k i] := by
  simp only [Typed, hu] at h
  obtain ⟨i, h1, _⟩ := h
  exact ⟨i, h1⟩
theorem typed_struct {P : Program} {n t : Nat} {fs : Array Field} {xs : List AV} (hu : P.underlying t = some (.struct fs)) (h : Typed P (n + 1) t xs) : TypedFs (Typed P n) (fs.toList.map (·.type)) xs := by simpa only [Typed, hu] using h
theorem bulkL_le1 (a b : List AV) : bulkL a ≤ bulkL (a ++ b) := by rw [bulkL_append]; omega
theorem bulkL_le2 (a b : List AV) : bulkL b ≤ bulkL (a ++ b) := by rw [bulkL_append]; omega
end Go.Pv
