/- A part of the proof that AccessRights returns true wherever its input is of bulk at most 1048576: what the functions that it reaches answer. No theorem of the claim stands here. -/
import Derived.Test.YtedapkgjicmhjaaGreatDoorPvDef
namespace Go.Pv
open Go Go.RowKit

/-- Where an object lies: its block, the cells of one element, the cells of the block. -/
structure Meta where
  blk : Nat
  sz : Nat
  cells : Nat

abbrev Phi := Nat → Option Meta
def phi0 : Phi := fun _ => none
def Phi.le (φ φ' : Phi) : Prop := ∀ id m, φ id = some m → φ' id = some m
theorem Phi.le_refl (φ : Phi) : φ.le φ := fun _ _ h => h
theorem Phi.le_trans {a b c : Phi} (h : a.le b) (k : b.le c) : a.le c := fun _ _ e => k _ _ (h _ _ e)
theorem phi0_le (φ : Phi) : phi0.le φ := fun _ _ h => by cases h

theorem cell?_congr {w w' : World} {a : Addr} (h : w'.heap[a.block]? = w.heap[a.block]?) : w'.cell? a = w.cell? a := by
  unfold World.cell?; rw [h]
theorem frozen?_congr {w w' : World} {a : Addr} (h : w'.heap[a.block]? = w.heap[a.block]?) : w'.frozen? a = w.frozen? a := by
  unfold World.frozen?; rw [h]
theorem add_block (a : Addr) (n : Nat) : (a.add n).block = a.block := by unfold Addr.add; split <;> rfl
theorem add_add (a : Addr) (n k : Nat) : (a.add n).add k = a.add (n + k) := by
  unfold Addr.add
  by_cases hn : n = 0
  · subst hn; simp
  · by_cases hk : k = 0
    · subst hk; simp
    · have : n + k ≠ 0 := by omega
      simp [hn, hk, Nat.add_assoc]
theorem add_plain (b o k : Nat) : (⟨b, o, none⟩ : Addr).add k = ⟨b, o + k, none⟩ := by
  unfold Addr.add; split <;> simp_all

/-- The abstract value stands for the value. im: the blocks that stay as they are. -/
inductive V (im : Nat → Prop) (w : World) : Phi → AV → Value → Prop
  | bool {φ} (b : Bool) : V im w φ (.bool b) (.bool b)
  | int {φ} (k : IntKind) (n : Int) : V im w φ (.int k n) (.int k n)
  | str {φ} (s : List UInt8) : V im w φ (.str s) (.string ⟨s.toArray⟩)
  | nilp {φ} : V im w φ .nilp (.pointer none)
  | cptr {φ} (e : List AV) (a : Addr) (vs : Nat → Value) (him : e ≠ [] → im a.block)
      (hc : ∀ o, o < e.length → w.cell? (a.add o) = some (vs o)) (hv : ∀ o, o < e.length → V im w phi0 (e.getD o .no) (vs o)) (ho : ∀ o, o < e.length → (e.getD o .no).one = true) : V im w φ (.cptr e) (.pointer (some a))
  | ptr {φ} (id i o : Nat) (m : Meta) (h : φ id = some m) : V im w φ (.ptr id i o) (.pointer (some ⟨m.blk, i * m.sz + o, none⟩))
  | nils {φ} : V im w φ .nils (.slice none 0 0)
  | lst {φ} (sz : Nat) (es : List (List AV)) (full : Bool) (a : Addr) (cap : Nat) (vs : Nat → Nat → Value) (him : es ≠ [] → im a.block) (hl : ∀ i, i < es.length → (es.getD i []).length = sz)
      (hc : ∀ i o, i < es.length → o < sz → w.cell? (a.add (i * sz + o)) = some (vs i o)) (hv : ∀ i o, i < es.length → o < sz → V im w phi0 ((es.getD i []).getD o .no) (vs i o))
      (ho : ∀ i o, i < es.length → o < sz → ((es.getD i []).getD o .no).one = true) (hcap : es.length ≤ cap) (hf : full = true → cap = es.length) : V im w φ (.lst sz es full) (.slice (some a) es.length cap)
  | arr {φ} (id off len cap sz : Nat) (loose : Bool) (m : Meta) (c : Nat) (h : φ id = some m) (hsz : m.sz = sz) (hlen : len ≤ cap) (hcap : cap ≤ c) (hx : loose = false → c = cap) (hr : (off + c) * sz ≤ m.cells) :
      V im w φ (.arr id off len cap sz loose) (.slice (some ⟨m.blk, off * sz, none⟩) len c)
  | map {φ} (id : Nat) (m : Meta) (h : φ id = some m) : V im w φ (.map id) (.map (some m.blk))
  | nilm {φ} : V im w φ .nilm (.map none)
  | iter {φ} (id : Nat) (m : Meta) (h : φ id = some m) : V im w φ (.iter id) (.pointer (some ⟨m.blk, 0, none⟩))
  | fn {φ} (f : FuncId) (caps : List AV) (vals : Array Value) (hs : vals.size = caps.length) (hv : ∀ i, i < caps.length → V im w φ (caps.getD i .no) (vals.getD i undef)) :
      V im w φ (.fn f caps) (.func (.func f) #[] vals)
  | nilf {φ} : V im w φ .nilf .nilFunc
  | iface {φ} (t : TypeId) (v : AV) (x : Value) (h : V im w φ v x) : V im w φ (.iface t v) (.iface t x)
  | nili {φ} : V im w φ .nili .nilIface
  | agg {φ} (cs : List AV) (vals : Array Value) (hs : vals.size = cs.length) (hv : ∀ i, i < cs.length → V im w φ (cs.getD i .no) (vals.getD i undef)) : V im w φ (.agg cs) (.agg vals)
  | tup {φ} (cs : List AV) (vals : Array Value) (hs : vals.size = cs.length) (hv : ∀ i, i < cs.length → V im w φ (cs.getD i .no) (vals.getD i undef)) : V im w φ (.tup cs) (.tuple vals)

theorem V.no {im w φ} : V im w φ .no undef := .tup [] #[] rfl (fun i hi => by simp at hi)

theorem V.mono {im im' : Nat → Prop} {w w' : World} {φ φ' : Phi} {x : AV} {v : Value} (h : V im w φ x v) (hφ : φ.le φ') (him : ∀ b, im b → im' b ∧ w'.heap[b]? = w.heap[b]?) : V im' w' φ' x v := by
  induction h generalizing φ' with
  | bool b => exact .bool b
  | int k n => exact .int k n
  | str s => exact .str s
  | nilp => exact .nilp
  | cptr e a vs h1 h2 h3 h4 ih =>
    refine .cptr e a vs (fun he => (him _ (h1 he)).1) (fun o ho => ?_) (fun o ho => ih o ho (Phi.le_refl _)) h4
    rw [← h2 o ho]
    refine cell?_congr ?_
    rw [add_block]
    exact (him _ (h1 (by intro e0; subst e0; simp at ho))).2
  | ptr id i o m h => exact .ptr id i o m (hφ _ _ h)
  | nils => exact .nils
  | lst sz es full a cap vs h1 h2 h3 h4 h4o h5 h6 ih =>
    refine .lst sz es full a cap vs (fun he => (him _ (h1 he)).1) h2 (fun i o hi ho => ?_) (fun i o hi ho => ih i o hi ho (Phi.le_refl _)) h4o h5 h6
    rw [← h3 i o hi ho]
    refine cell?_congr ?_
    rw [add_block]
    exact (him _ (h1 (by intro e0; subst e0; simp at hi))).2
  | arr id off len cap sz loose m c h a1 a2 a3 a4 a5 => exact .arr id off len cap sz loose m c (hφ _ _ h) a1 a2 a3 a4 a5
  | map id m h => exact .map id m (hφ _ _ h)
  | nilm => exact .nilm
  | iter id m h => exact .iter id m (hφ _ _ h)
  | fn f caps vals hs _ ih => exact .fn f caps vals hs (fun i hi => ih i hi hφ)
  | nilf => exact .nilf
  | iface t v x _ ih => exact .iface t v x (ih hφ)
  | nili => exact .nili
  | agg cs vals hs _ ih => exact .agg cs vals hs (fun i hi => ih i hi hφ)
  | tup cs vals hs _ ih => exact .tup cs vals hs (fun i hi => ih i hi hφ)

theorem V.phi {im : Nat → Prop} {w : World} {φ φ' : Phi} {x : AV} {v : Value} (h : V im w φ x v) (hφ : φ.le φ') : V im w φ' x v := h.mono hφ fun _ hb => ⟨hb, rfl⟩

/-- Lists of values. -/
def VL (im : Nat → Prop) (w : World) (φ : Phi) (xs : List AV) (vs : List Value) : Prop := vs.length = xs.length ∧ ∀ i, i < xs.length → V im w φ (xs.getD i .no) (vs.getD i undef)

theorem VL.nil {im w φ} : VL im w φ [] [] := ⟨rfl, fun i hi => by simp at hi⟩
theorem VL.cons {im w φ x v xs vs} (h : V im w φ x v) (k : VL im w φ xs vs) : VL im w φ (x :: xs) (v :: vs) := by
  refine ⟨by simp [k.1], fun i hi => ?_⟩
  cases i with
  | zero => simpa using h
  | succ i => simpa using k.2 i (by simpa using hi)
theorem VL.head {im w φ x v xs vs} (h : VL im w φ (x :: xs) (v :: vs)) : V im w φ x v := by simpa using h.2 0 (by simp)
theorem VL.tail {im w φ x v xs vs} (h : VL im w φ (x :: xs) (v :: vs)) : VL im w φ xs vs :=
  ⟨by have := h.1; simpa using this, fun i hi => by simpa using h.2 (i + 1) (by simpa using hi)⟩
theorem VL.mono {im im' : Nat → Prop} {w w' : World} {φ φ' : Phi} {xs vs} (h : VL im w φ xs vs) (hφ : φ.le φ') (him : ∀ b, im b → im' b ∧ w'.heap[b]? = w.heap[b]?) : VL im' w' φ' xs vs :=
  ⟨h.1, fun i hi => (h.2 i hi).mono hφ him⟩
theorem VL.append {im w φ xs vs ys us} (h : VL im w φ xs vs) (k : VL im w φ ys us) : VL im w φ (xs ++ ys) (vs ++ us) := by
  refine ⟨by simp [h.1, k.1], fun i hi => ?_⟩
  by_cases hx : i < xs.length
  · have hv : i < vs.length := by rw [h.1]; exact hx
    have := h.2 i hx
    simpa [List.getD_eq_getElem?_getD, List.getElem?_append_left hx, List.getElem?_append_left hv] using this
  · have hl := h.1
    have := k.2 (i - xs.length) (by simp at hi; omega)
    simpa [List.getD_eq_getElem?_getD, List.getElem?_append_right (show xs.length ≤ i by omega), List.getElem?_append_right (show vs.length ≤ i by omega), hl] using this

/-- An object and the block where it lies. -/
def ObjOK (im : Nat → Prop) (w : World) (φ : Phi) (m : Meta) : AO → Prop
  | .row es fr => ∃ c ty frz, w.heap[m.blk]? = some (.cells c ty frz) ∧ c.size = m.cells ∧ es.length * m.sz ≤ m.cells ∧ (∀ i, i < es.length → (es.getD i []).length = m.sz) ∧
      (∀ i o, i < es.length → o < m.sz → V im w φ ((es.getD i []).getD o .no) (c.getD (i * m.sz + o) undef) ∧ ((es.getD i []).getD o .no).one = true) ∧ (∀ k, k < m.cells → ¬ (frz.1 ≤ k ∧ k < frz.2)) ∧ (fr = true → im m.blk) ∧ (fr = false → ¬ im m.blk)
  | .map es clock => ∃ ces, w.heap[m.blk]? = some (.map ces clock) ∧ ces.size = es.length ∧ ¬ im m.blk ∧
      ∀ i, i < es.length → ∀ e, es[i]? = some e → ∃ ce, ces[i]? = some ce ∧ V im w φ e.1 ce.key ∧ V im w φ e.2.1 ce.val ∧ ce.born = e.2.2
  | .iter mp since seen stepped => ∃ r, w.heap[m.blk]? = some (.mapIter r since seen.toArray stepped) ∧ ¬ im m.blk ∧ (match mp with | some id => ∃ mm, φ id = some mm ∧ r = some mm.blk | none => r = none)
  | .dead => True

structure Rel (im : Nat → Prop) (w : World) (φ : Phi) (h : Hp) : Prop where
  imlt : ∀ b, im b → b < w.heap.size
  lt : ∀ id m, φ id = some m → m.blk < w.heap.size
  obj : ∀ id m, φ id = some m → ObjOK im w φ m (h id)
  inj : ∀ id id' m m', φ id = some m → φ id' = some m' → m.blk = m'.blk → id = id' ∨ h id = .dead ∨ h id' = .dead

/-- How things grow. -/
structure Grow (im : Nat → Prop) (w : World) (φ : Phi) (im' : Nat → Prop) (w' : World) (φ' : Phi) : Prop where
  os : w'.os = w.os
  tape : w'.tape = w.tape
  output : w'.output = w.output
  size : w.heap.size ≤ w'.heap.size
  phi : φ.le φ'
  imle : ∀ b, im b → im' b
  imk : ∀ b, im b → w'.heap[b]? = w.heap[b]?
  keep : ∀ b, b < w.heap.size → (∀ id m, φ id = some m → m.blk ≠ b) → w'.heap[b]? = w.heap[b]?
  img : ∀ id m, φ' id = some m → w.heap.size ≤ m.blk ∨ ∃ id0 m0, φ id0 = some m0 ∧ m0.blk = m.blk
  imn : ∀ b, im' b → im b ∨ w.heap.size ≤ b ∨ ∃ id m, φ id = some m ∧ m.blk = b

theorem Grow.refl (im w φ) : Grow im w φ im w φ :=
  ⟨rfl, rfl, rfl, Nat.le_refl _, Phi.le_refl _, fun _ h => h, fun _ _ => rfl, fun _ _ _ => rfl, fun id m h => .inr ⟨id, m, h, rfl⟩, fun _ h => .inl h⟩

theorem Grow.trans {im w φ im1 w1 φ1 im2 w2 φ2} (a : Grow im w φ im1 w1 φ1) (b : Grow im1 w1 φ1 im2 w2 φ2) : Grow im w φ im2 w2 φ2 where
  os := b.os.trans a.os
  tape := b.tape.trans a.tape
  output := b.output.trans a.output
  size := Nat.le_trans a.size b.size
  phi := Phi.le_trans a.phi b.phi
  imle := fun x h => b.imle x (a.imle x h)
  imk := fun x h => (b.imk x (a.imle x h)).trans (a.imk x h)
  keep := fun x hx hn => by
    refine (b.keep x (Nat.lt_of_lt_of_le hx a.size) ?_).trans (a.keep x hx hn)
    intro id m hm e
    rcases a.img id m hm with h | ⟨id0, m0, h0, e0⟩
    · omega
    · exact hn id0 m0 h0 (e0.trans e)
  img := fun id m hm => by
    rcases b.img id m hm with h | ⟨id1, m1, h1, e1⟩
    · exact .inl (Nat.le_trans a.size h)
    · rcases a.img id1 m1 h1 with h | ⟨id0, m0, h0, e0⟩
      · exact .inl (e1 ▸ h)
      · exact .inr ⟨id0, m0, h0, e0.trans e1⟩
  imn := fun x hx => by
    rcases b.imn x hx with h | h | ⟨id, m, hm, e⟩
    · exact a.imn x h
    · exact .inr (.inl (Nat.le_trans a.size h))
    · rcases a.img id m hm with h | ⟨id0, m0, h0, e0⟩
      · exact .inr (.inl (e ▸ h))
      · exact .inr (.inr ⟨id0, m0, h0, e0.trans e⟩)

theorem Grow.V {im w φ im' w' φ'} (g : Grow im w φ im' w' φ') {x v} (h : V im w φ x v) : V im' w' φ' x v := h.mono g.phi fun b hb => ⟨g.imle b hb, g.imk b hb⟩
theorem Grow.VL {im w φ im' w' φ'} (g : Grow im w φ im' w' φ') {x v} (h : VL im w φ x v) : VL im' w' φ' x v := h.mono g.phi fun b hb => ⟨g.imle b hb, g.imk b hb⟩
theorem Grow.V0 {im w φ im' w' φ'} (g : Grow im w φ im' w' φ') {x v} (h : Pv.V im w phi0 x v) : Pv.V im' w' phi0 x v := h.mono (Phi.le_refl _) fun b hb => ⟨g.imle b hb, g.imk b hb⟩

/-- The new numbers of φ' are from n to n'. -/
def Dom (φ φ' : Phi) (n n' : Nat) : Prop := n ≤ n' ∧ ∀ id m, φ' id = some m → φ id = some m ∨ (n ≤ id ∧ id < n')
theorem Dom.refl (φ n) : Dom φ φ n n := ⟨Nat.le_refl _, fun _ _ h => .inl h⟩
theorem Dom.trans {φ φ1 φ2 n n1 n2} (a : Dom φ φ1 n n1) (b : Dom φ1 φ2 n1 n2) : Dom φ φ2 n n2 :=
  ⟨Nat.le_trans a.1 b.1, fun id m h => by
    have := a.1; have := b.1
    rcases b.2 id m h with h | h
    · rcases a.2 id m h with h | h
      · exact .inl h
      · exact .inr (by omega)
    · exact .inr (by omega)⟩
def DomLt (φ : Phi) (n : Nat) : Prop := ∀ id m, φ id = some m → id < n
theorem Dom.lt {φ φ' n n'} (d : Dom φ φ' n n') (h : DomLt φ n) : DomLt φ' n' := fun id m hm => by
  have := d.1
  rcases d.2 id m hm with h' | h'
  · have := h id m h'; omega
  · omega

/-- Worlds in which old blocks are as they were. -/
theorem ObjOK.mono {im im' : Nat → Prop} {w w' : World} {φ φ' : Phi} {m : Meta} {o : AO} (h : ObjOK im w φ m o) (hφ : φ.le φ') (him : ∀ b, im b → im' b ∧ w'.heap[b]? = w.heap[b]?)
    (hb : w'.heap[m.blk]? = w.heap[m.blk]?) (hi : im' m.blk → im m.blk) : ObjOK im' w' φ' m o := by
  cases o with
  | row es fr =>
    obtain ⟨c, ty, frz, h1, h2, h3, h4, h5, h6, h7, h8⟩ := h
    exact ⟨c, ty, frz, hb.trans h1, h2, h3, h4, fun i o hi ho => ⟨(h5 i o hi ho).1.mono hφ him, (h5 i o hi ho).2⟩, h6, fun e => (him _ (h7 e)).1, fun e k => h8 e (hi k)⟩
  | map es clock =>
    obtain ⟨ces, h1, h2, h3, h4⟩ := h
    refine ⟨ces, hb.trans h1, h2, fun k => h3 (hi k), fun i hi e he => ?_⟩
    obtain ⟨ce, k1, k2, k3, k4⟩ := h4 i hi e he
    exact ⟨ce, k1, k2.mono hφ him, k3.mono hφ him, k4⟩
  | iter mp since seen stepped =>
    obtain ⟨r, h1, h2, h3⟩ := h
    refine ⟨r, hb.trans h1, fun k => h2 (hi k), ?_⟩
    cases mp with
    | none => exact h3
    | some id => obtain ⟨mm, k1, k2⟩ := h3; exact ⟨mm, hφ _ _ k1, k2⟩
  | dead => trivial

/-- Nothing that was there has changed. -/
theorem Rel.below {im w φ h w'} (r : Rel im w φ h) (b : Below w.heap.size w w') : Rel im w' φ h where
  imlt := fun x hx => Nat.lt_of_lt_of_le (r.imlt x hx) b.size
  lt := fun id m hm => Nat.lt_of_lt_of_le (r.lt id m hm) b.size
  obj := fun id m hm => (r.obj id m hm).mono (Phi.le_refl _) (fun x hx => ⟨hx, b.block x (r.imlt x hx)⟩) (b.block _ (r.lt id m hm)) (fun h => h)
  inj := r.inj
theorem Rel.grow_below {im w φ h w'} (r : Rel im w φ h) (b : Below w.heap.size w w') : Grow im w φ im w' φ where
  os := b.os
  tape := b.tape
  output := b.output
  size := b.size
  phi := Phi.le_refl _
  imle := fun _ h => h
  imk := fun x hx => b.block x (r.imlt x hx)
  keep := fun x hx _ => b.block x hx
  img := fun id m hm => .inr ⟨id, m, hm, rfl⟩
  imn := fun _ h => .inl h

def addPhi (φ : Phi) (n : Nat) (m : Meta) : Phi := fun id => if id = n then some m else φ id
theorem addPhi_le {φ : Phi} {n : Nat} {m : Meta} (h : φ n = none) : φ.le (addPhi φ n m) := fun id m' e => by
  unfold addPhi
  split
  · rename_i e'; rw [e', h] at e; cases e
  · exact e
theorem addPhi_self (φ : Phi) (n : Nat) (m : Meta) : addPhi φ n m n = some m := by simp [addPhi]
theorem DomLt.none {φ : Phi} {n : Nat} (h : DomLt φ n) : φ n = none := by
  cases e : φ n with
  | none => rfl
  | some m => have := h n m e; omega

/-- A new object. -/
theorem Rel.new {im w φ h} (r : Rel im w φ h) {n : Nat} (hn : φ n = none) (o : Obj) (ao : AO) (sz cells : Nat)
    (ho : ObjOK im (w.alloc o) (addPhi φ n ⟨w.heap.size, sz, cells⟩) ⟨w.heap.size, sz, cells⟩ ao) :
    Rel im (w.alloc o) (addPhi φ n ⟨w.heap.size, sz, cells⟩) (upd h n ao) ∧ Grow im w φ im (w.alloc o) (addPhi φ n ⟨w.heap.size, sz, cells⟩) := by
  have hb : ∀ k, k < w.heap.size → (w.alloc o).heap[k]? = w.heap[k]? := fun k hk => Below.heap_alloc w o k hk
  have hs : (w.alloc o).heap.size = w.heap.size + 1 := by simp
  refine ⟨⟨fun b hb' => ?_, fun id m hm => ?_, fun id m hm => ?_, fun id id' m m' hm hm' e => ?_⟩, ⟨rfl, rfl, rfl, by omega, addPhi_le hn, fun _ h => h, fun b hb' => hb b (r.imlt b hb'), fun b h1 _ => hb b h1, fun id m hm => ?_, fun _ h => .inl h⟩⟩
  · have := r.imlt b hb'; omega
  · unfold addPhi at hm
    split at hm
    · cases hm; simp
    · have := r.lt id m hm; omega
  · unfold addPhi at hm
    split at hm
    · rename_i e
      cases hm
      simp only [upd, e, if_true]
      exact ho
    · rename_i e
      simp only [upd, e, if_false]
      exact (r.obj id m hm).mono (addPhi_le hn) (fun b hb' => ⟨hb', hb b (r.imlt b hb')⟩) (hb _ (r.lt id m hm)) (fun h => h)
  · unfold addPhi at hm hm'
    split at hm <;> split at hm'
    · rename_i e1 e2; exact .inl (e1.trans e2.symm)
    · cases hm
      have := r.lt id' m' hm'
      simp at e; omega
    · cases hm'
      have := r.lt id m hm
      simp at e; omega
    · rename_i e1 e2
      have := r.inj id id' m m' hm hm' e
      simpa only [upd, e1, e2, if_false] using this
  · unfold addPhi at hm
    split at hm
    · cases hm; exact .inl (Nat.le_refl _)
    · exact .inr ⟨id, m, hm, rfl⟩
theorem Dom.add {φ n} (m : Meta) : Dom φ (addPhi φ n m) n (n + 1) := ⟨by omega, fun id m' h => by
  unfold addPhi at h
  split at h
  · rename_i e; exact .inr (by omega)
  · exact .inl h⟩

end Go.Pv
