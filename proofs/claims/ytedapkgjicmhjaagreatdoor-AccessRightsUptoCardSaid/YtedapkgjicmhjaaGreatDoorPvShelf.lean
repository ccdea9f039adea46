/- A part of the proof that AccessRights returns true wherever its input is of bulk at most 1048576: what the functions that it reaches answer. No theorem of the claim stands here. -/
import Derived.Test.YtedapkgjicmhjaaGreatDoorPvTab
import Derived.Shelf.Sort.Plain
import Derived.Shelf.Slices.CompactI
import Derived.Shelf.Slices.In.SortNone
namespace Go.Pv
open Go Go.RowKit Go.Sort Go.Proofs
set_option linter.unusedSimpArgs false
set_option linter.unusedVariables false

/-- Elements of one cell. -/
structure Enc (α : Type) where
  enc : α → Value
  a : α → AV
  dec : List AV → Option α
  dec_a : ∀ c z, dec c = some z → c = [a z]
  val : ∀ im w φ z v, V im w φ (a z) v → v = enc z
  up : ∀ im w φ z, V im w φ (a z) (enc z)
  one : ∀ z, (a z).one = true
def decInt : List AV → Option Int
  | [.int .i64 z] => some z
  | _ => none
def encInt : Enc Int where
  enc := Value.int .i64
  a := .int .i64
  dec := decInt
  dec_a := fun c z h => by
    unfold decInt at h
    split at h
    · cases h; rfl
    · cases h
  val := fun im w φ z v h => by cases h; rfl
  up := fun im w φ z => .int _ _
  one := fun z => rfl

/-- What a function does to a row of its own elements. -/
def rowT {α : Type} (E : Enc α) (F : List α → List α) (ret : Nat → Nat → Nat → Nat → Bool → List α → AV) (ret0 : AV → AV) : List AV → Nat → Hp → Option (AV × List (Nat × AO) × Nat)
  | [.arr id off len cap sz loose], n, h => match h id with
    | .row es false => if sz = 1 ∧ off + len ≤ es.length ∧ len < 4611686018427387904 then
        match seqO E.dec ((es.drop off).take len) with
        | some zs => some (ret id off len cap loose zs, [(id, .row (es.take off ++ (F zs).map (fun z => [E.a z]) ++ es.drop (off + len)) false)], n)
        | none => none
      else none
    | _ => none
  | [.nils], n, h => some (ret0 .nils, [], n)
  | [.lst sz [] f], n, h => if sz = 1 then some (ret0 (.lst 1 [] f), [], n) else none
  | _, _, _ => none

theorem row_seg {α : Type} {es : List (List AV)} {f : α → List AV} {zs : List α} {off len i : Nat} (hl : off + len ≤ es.length) (hz : zs.length = len) :
    (es.take off ++ zs.map f ++ es.drop (off + len)).getD i [] = if off ≤ i ∧ i < off + len then (zs.map f).getD (i - off) [] else es.getD i [] := by
  have := seg_get ([] : List AV) es (zs.map f) off (by simp; omega) i
  simp only [List.length_map, hz] at this
  exact this

theorem row_IS {α : Type} [Inhabited α] {P : Program} {gl : Nat → List AV} {f : FuncId} {E : Enc α} {F : List α → List α} {ret : Nat → Nat → Nat → Nat → Bool → List α → AV} {ret0 : AV → AV} {retV : Nat → Nat → Nat → List α → Value} {ret0V : Option Addr → Nat → Value}
    (hlen : ∀ zs, (F zs).length = zs.length)
    (hret : ∀ im w φ id off len cap loose zs m c, φ id = some m → m.sz = 1 → len = zs.length → len ≤ cap → cap ≤ c → (loose = false → c = cap) → off + c ≤ m.cells → V im w φ (ret id off len cap loose zs) (retV m.blk off c zs))
    (hent : ∀ args w, (callFunc f args).run P w = .ok (.enter f args) w)
    (hC : ∀ blk off c zs w, Holds E.enc w blk off zs.toArray → blk < w.heap.size → zs.length < 4611686018427387904 → zs.length ≤ c → Calls P f #[.slice (some ⟨blk, off, none⟩) zs.length c] w fun e w' => e = .returned (retV blk off c zs) ∧ ∃ n os, w' = grow (putRow E.enc (Sort.ahead w n) blk off (F zs).toArray) os)
    (h0 : ∀ a c w, Calls P f #[.slice a 0 c] w fun e w' => e = .returned (ret0V a c) ∧ w' = w)
    (hr0 : ∀ im w φ x a c, V im w φ x (.slice a 0 c) → V im w φ (ret0 x) (ret0V a c)) : IS P gl f (rowT E F ret ret0) := by
  intro args n h v ws n' hT
  have flat : ∀ x, n = n' → ws = [] → v = ret0 x → args = [x] → (∀ im w φ u, V im w φ x u → ∃ a c, u = .slice a 0 c) → n ≤ n' ∧ ∀ (im : Nat → Prop) (w : World) (φ : Phi) (vals : List Value), Rel im w φ h → ((∀ id, n ≤ id → id < n' → φ id = none) → GlOK gl im w → VL im w φ args vals →
    Ends P (fun u w' => ∃ im' φ', Out im w φ n n' (updW h ws) v im' w' φ' u) ((callFunc f vals.toArray).run P w)) := by
    rintro x rfl rfl rfl rfl hx
    refine ⟨Nat.le_refl _, fun im w φ vals hR _ hgl hA => ?_⟩
    obtain ⟨u, rfl⟩ : ∃ u, vals = [u] := by
      match vals, hA.1 with
      | [u], _ => exact ⟨u, rfl⟩
    have hV := hA.head
    obtain ⟨a, c, rfl⟩ := hx im w φ u hV
    rw [hent]
    simp only [Ends]
    refine (h0 a c w).mono ?_
    rintro e w' ⟨rfl, rfl⟩
    exact ⟨_, rfl, im, φ, hR, .refl _ _ _, .refl _ _, hr0 _ _ _ _ _ _ hV⟩
  unfold rowT at hT
  split at hT
  · rename_i id off len cap sz loose
    split at hT
    · rename_i es hes
      split at hT
      · rename_i hc
        obtain ⟨rfl, hl, hbig⟩ := hc
        split at hT
        · rename_i zs hz
          simp only [Option.some.injEq, Prod.mk.injEq] at hT
          obtain ⟨rfl, rfl, rfl⟩ := hT
          refine ⟨Nat.le_refl _, fun im w φ vals hR _ hgl hA => ?_⟩
          obtain ⟨u, rfl⟩ : ∃ u, vals = [u] := by
            match vals, hA.1 with
            | [u], _ => exact ⟨u, rfl⟩
          have hV := hA.head
          have hzl : len = zs.length := by
            have := seqO_len hz
            simp at this; omega
          cases hV with
          | arr _ _ _ _ _ _ m c hφ hsz hlc hcc hx hr =>
            have hO := hR.obj id m hφ
            rw [hes] at hO
            have hO' := hO
            obtain ⟨c0, ty, frz, o1, o2, o3, o4, o5, o6, o7, o8⟩ := hO'
            have hsz' : m.sz = 1 := hsz
            have hHolds : Holds E.enc w m.blk off zs.toArray := by
              intro j hj
              have hj' : j < zs.length := by simpa using hj
              obtain ⟨e, e1, e2⟩ := seqO_get hz hj'
              have e3 := E.dec_a _ _ e2
              have hlt : off + j < es.length := by omega
              have e4 : es.getD (off + j) [] = [E.a zs[j]] := by
                rw [List.getElem?_take, if_pos (by omega), List.getElem?_drop] at e1
                rw [List.getD_eq_getElem?_getD, e1, e3]; rfl
              obtain ⟨q1, q2⟩ := o5 (off + j) 0 hlt (by omega)
              rw [e4, hsz'] at q1
              have q3 := E.val _ _ _ _ _ q1
              have hb : off + j < c0.size := by rw [hsz'] at o3; omega
              refine ⟨?_, frozen_of_block o1 (o6 _ (by omega))⟩
              rw [cell_of_block o1 hb]
              simp only [Nat.mul_one, Nat.add_zero] at q3
              rw [q3, getElem!_pos _ j hj]
              simp
            rw [hent]
            simp only [Ends]
            have hblk := hR.lt id m hφ
            rw [show off * 1 = off by omega]
            subst hzl
            refine (hC m.blk off c zs w hHolds hblk hbig (by omega)).mono ?_
            rintro e w' ⟨rfl, k, os, rfl⟩
            generalize hw1 : putRow E.enc (Sort.ahead w k) m.blk off (F zs).toArray = w1
            have ht : Turned w w1 m.blk := by
              subst hw1
              refine ⟨rfl, rfl, rfl, by simp [putRow, mapBlock, Sort.ahead], fun j hj => ?_⟩
              simp [putRow, mapBlock, Sort.ahead, Array.getElem?_modify, Ne.symm hj]
            have hb1 : w1.heap[m.blk]? = some (.cells (putCells E.enc off (F zs).toArray c0) ty frz) := by
              subst hw1
              simp [putRow, mapBlock, Sort.ahead, Array.getElem?_modify, o1, onCells]
            have hFl := hlen zs
            have hcs : (putCells E.enc off (F zs).toArray c0).size = c0.size := by simp [putCells]
            have hnl : (es.take off ++ (F zs).map (fun z => [E.a z]) ++ es.drop (off + zs.length)).length = es.length := by simp [hFl]; omega
            have hnew : ObjOK im w1 φ m (.row (es.take off ++ (F zs).map (fun z => [E.a z]) ++ es.drop (off + zs.length)) false) := by
              refine row_write hO o1 hb1 hcs ht (fun i hi => ?_) (by rw [hnl]; exact o3) (fun i o hi ho => ?_)
              · rw [hnl] at hi
                rw [row_seg hl hFl]
                split
                · rename_i q
                  rw [List.getD_eq_getElem?_getD, List.getElem?_map, List.getElem?_eq_getElem (by omega)]
                  simp [hsz']
                · exact o4 i hi
              · rw [hnl] at hi
                rw [row_seg hl hFl]
                obtain rfl : o = 0 := by omega
                have hi0 : i < c0.size := by rw [hsz'] at o3; omega
                have hg : (putCells E.enc off (F zs).toArray c0).getD (i * m.sz + 0) undef = if off ≤ i ∧ i < off + zs.length then E.enc (F zs)[i - off]! else c0.getD (i * m.sz + 0) undef := by
                  simp only [hsz', Nat.mul_one, Nat.add_zero, Array.getD_eq_getD_getElem?, putCells, Array.getElem?_mapIdx, Array.getElem?_eq_getElem hi0, Option.map_some, Option.getD_some, List.size_toArray, hFl]
                  split
                  · rename_i q
                    congr 1
                    have : i - off < (F zs).length := by omega
                    rw [getElem!_pos (F zs).toArray (i - off) (by simpa using this), getElem!_pos (F zs) (i - off) this]
                    simp
                  · rfl
                rw [hg]
                by_cases q : off ≤ i ∧ i < off + zs.length
                · rw [if_pos q, if_pos q]
                  have : i - off < (F zs).length := by omega
                  have hgd : ((F zs).map fun z => [E.a z]).getD (i - off) [] = [E.a (F zs)[i - off]] := by
                    rw [List.getD_eq_getElem?_getD, List.getElem?_map, List.getElem?_eq_getElem this]; rfl
                  rw [hgd, getElem!_pos (F zs) (i - off) this]
                  exact ⟨E.up _ _ _ _, E.one _⟩
                · rw [if_neg q, if_neg q]
                  exact o5 i 0 hi (by omega)
            obtain ⟨r1, r2⟩ := hR.write hφ (by rw [hes]; intro q; cases q) (o8 rfl) ht hnew
            have hbel : Below w1.heap.size w1 (grow w1 os) := ⟨rfl, rfl, rfl, by simp, fun j hj => by simp [grow, Array.getElem?_append, hj]⟩
            refine ⟨_, rfl, im, φ, r1.below hbel, r2.trans (r1.grow_below hbel), .refl _ _, ?_⟩
            exact hret _ _ _ _ _ _ _ _ _ _ _ hφ hsz' rfl hlc hcc hx (by rw [Nat.mul_one] at hr; exact hr)
        · cases hT
      · cases hT
    · cases hT
  · simp only [Option.some.injEq, Prod.mk.injEq] at hT
    obtain ⟨rfl, rfl, rfl⟩ := hT
    exact flat .nils rfl rfl rfl rfl fun im w φ u hV => by cases hV; exact ⟨_, _, rfl⟩
  · split at hT
    · rename_i hs
      subst hs
      simp only [Option.some.injEq, Prod.mk.injEq] at hT
      obtain ⟨rfl, rfl, rfl⟩ := hT
      exact flat _ rfl rfl rfl rfl fun im w φ u hV => by cases hV; exact ⟨_, _, rfl⟩
    · cases hT
  · cases hT

/-! ### slices.Sort, slices.Compact at whole numbers -/
def sortI (zs : List Int) : List Int := zs.mergeSort fun x y => decide (x ≤ y)
def compactI (zs : List Int) : List Int := Lib.compact zs ++ List.replicate (zs.length - (Lib.compact zs).length) 0
theorem compact_le (zs : List Int) : (Lib.compact zs).length ≤ zs.length := by
  unfold Lib.compact Lib.compactUpTo
  rw [List.length_map]
  refine Nat.le_trans (List.length_filter_le _ _) ?_
  simp
def T_Sort : List AV → Nat → Hp → Option (AV × List (Nat × AO) × Nat) := rowT encInt sortI (fun _ _ _ _ _ _ => .tup []) (fun _ => .tup [])
def T_Compact : List AV → Nat → Hp → Option (AV × List (Nat × AO) × Nat) := rowT encInt compactI (fun id off _ cap loose zs => .arr id off (Lib.compact zs).length cap 1 loose) (fun x => x)
theorem Sort_IS {P : Program} {ρ : Go.Shelf.Ren} {gl : Nat → List AV} (L : Lays.n189 P ρ) (hent : ∀ args w, (callFunc (ρ.f 189) args).run P w = .ok (.enter (ρ.f 189) args) w) : IS P gl (ρ.f 189) T_Sort :=
  row_IS (retV := fun _ _ _ _ => .tuple #[]) (ret0V := fun _ _ => .tuple #[]) (fun zs => by simp [sortI]) (fun _ _ _ _ _ _ _ _ _ _ _ _ _ _ _ _ _ _ => .tup [] #[] rfl (fun i hi => by simp at hi)) hent
    (fun blk off c zs w hH hb hl _ => Any.slices_Sort_int L blk off c zs w hH hb hl)
    (fun a c w => Any.slices_Sort_int_none L a c w) (fun _ _ _ _ _ _ _ => .tup [] #[] rfl (fun i hi => by simp at hi))
theorem Compact_IS {P : Program} {ρ : Go.Shelf.Ren} {gl : Nat → List AV} (L : Lays2.n20 P ρ) (hent : ∀ args w, (callFunc (ρ.f 20) args).run P w = .ok (.enter (ρ.f 20) args) w) : IS P gl (ρ.f 20) T_Compact :=
  row_IS (retV := fun blk off c zs => .slice (some ⟨blk, off, none⟩) (Lib.compact zs).length c) (ret0V := fun a c => .slice a 0 c) (fun zs => by have := compact_le zs; simp [compactI]; omega)
    (fun im w φ id off len cap loose zs m c hφ hs hl h1 h2 h3 h4 => by
      have h5 := compact_le zs
      have := V.arr (im := im) (w := w) (φ := φ) id off (Lib.compact zs).length cap 1 loose m c hφ hs (by omega) h2 h3 (by omega)
      rwa [Nat.mul_one] at this) hent
    (fun blk off c zs w hH hb hl hc => (Any.slices_Compact_int L blk off c zs w hH (by omega) hc).mono fun e w' ⟨h1, q, h2⟩ => ⟨h1, q, #[], by rw [h2, grow_empty]; rfl⟩)
    (fun a c w => Any.slices_Compact_int_empty L a c w) (fun _ _ _ _ _ _ h => h)
end Go.Pv
