/- A part of the proof that AccessRights returns true wherever its input is of bulk at most 1048576: what the functions that it reaches answer. No theorem of the claim stands here. -/
import Derived.Test.YtedapkgjicmhjaaGreatDoorPvOpE
set_option linter.unusedSimpArgs false
set_option linter.unusedVariables false
namespace Go.Pv
open Go Go.RowKit

section
variable {P : Program} {im : Nat → Prop} {w : World} {φ : Phi} {h : Hp}

theorem cell_of_block {b : Nat} {c : Array Value} {ty : TypeId} {frz : Nat × Nat} (hb : w.heap[b]? = some (.cells c ty frz)) {k : Nat} (hk : k < c.size) : w.cell? ⟨b, k, none⟩ = some (c.getD k undef) := by
  simp [World.cell?, hb, Array.getD_eq_getD_getElem?, hk]
theorem frozen_of_block {b : Nat} {c : Array Value} {ty : TypeId} {frz : Nat × Nat} (hb : w.heap[b]? = some (.cells c ty frz)) {k : Nat} (hk : ¬ (frz.1 ≤ k ∧ k < frz.2)) : w.frozen? ⟨b, k, none⟩ = false := by
  obtain ⟨lo, hi⟩ := frz
  simp only [World.frozen?, hb]
  simp only [not_and, Nat.not_lt] at hk
  by_cases h1 : lo ≤ k
  · have := hk h1
    simp [h1]; omega
  · simp [h1]

theorem mul_add_lt {i n o s : Nat} (hi : i < n) (ho : o < s) : i * s + o < n * s := by
  have := Nat.mul_le_mul_right s (show i + 1 ≤ n from hi)
  rw [Nat.add_mul, Nat.one_mul] at this
  omega

/-- A row's element, read. -/
theorem row_load {m : Meta} {es : List (List AV)} {fr : Bool} (ho : ObjOK im w φ m (.row es fr)) {t : TypeId} {i o : Nat} {e : List AV} (he : es[i]? = some e) {x : AV} (hr : readAt P t (e.drop o) = some x) :
    ∃ v, (loadVar t ⟨m.blk, i * m.sz + o, none⟩).run P w = .ok v w ∧ V im w φ x v := by
  obtain ⟨c, ty, frz, h1, h2, h3, h4, h5, h6, _⟩ := ho
  have hi := (List.getElem?_eq_some_iff.1 he).1
  have hed : es.getD i [] = e := by simp [List.getD_eq_getElem?_getD, he]
  have hl : e.length = m.sz := by rw [← hed]; exact h4 i hi
  refine load_sim (fun k => c.getD (i * m.sz + (o + k)) undef) (fun k hk => ?_) (fun k hk => ?_) hr
  · simp at hk
    rw [add_plain, Nat.add_assoc]
    refine cell_of_block h1 ?_
    have := mul_add_lt (s := m.sz) hi (show o + k < m.sz by omega)
    omega
  · simp at hk
    have := (h5 i (o + k) hi (by omega)).1
    rw [hed] at this
    simpa [List.getD_eq_getElem?_getD, List.getElem?_drop] using this

/-! ### keys -/
theorem key_kind {t : TypeId} {k : AV} (hk : keyA P t k = true) : (∃ cs ks, k = .agg cs ∧ tKinds P t = some ks ∧ fitL ks cs = true) ∨ (∃ q, kindOf k = some q ∧ tKind1 P t = some q) := by
  unfold keyA at hk
  split at hk
  · split at hk
    · rename_i cs _ ks h1; exact .inl ⟨cs, ks, rfl, h1, hk⟩
    · cases hk
  · simp only [Bool.and_eq_true, beq_iff_eq] at hk
    obtain ⟨q, hq⟩ := Option.isSome_iff_exists.1 hk.1
    exact .inr ⟨q, hq, hk.2.trans hq⟩

theorem check_fields (empty : Bool) (d : Nat) {xs : List AV} {vx : Array Value} (hx : VL im w φ xs vx.toList) (B : Field → PUnit → Sem (ForInStep PUnit))
    (hB : ∀ f a, f.name ≠ "_" → (part f.type vx f.offset).run P w = .ok a w → (Instr.checkKey empty (d + 1) f.type a).run P w = .ok () w → (B f PUnit.unit).run P w = .ok (.yield PUnit.unit) w) :
    ∀ (fs : List Field) (k : Nat) (ks : List KD), ((fs.zipIdx k).all fun (f, i) => f.name != "_" && f.offset == i) = true →
    fs.mapM (fun f => tKind1 P f.type) = some ks → fitL ks (xs.drop k) = true → (forIn fs PUnit.unit B).run P w = .ok PUnit.unit w := by
  intro fs
  induction fs with
  | nil => intro k ks _ _ _; rfl
  | cons f fs ih =>
    intro k ks ha hm hf
    simp only [List.zipIdx_cons, List.all_cons, Bool.and_eq_true, bne_iff_ne, ne_eq, beq_iff_eq] at ha
    obtain ⟨⟨hn, ho⟩, ha⟩ := ha
    simp only [List.mapM_cons, Option.bind_eq_bind, Option.pure_def, Option.bind_eq_some_iff] at hm
    obtain ⟨q, hq, qs, hqs, e⟩ := hm
    cases e
    cases hxd : xs.drop k with
    | nil => rw [hxd] at hf; simp [fitL] at hf
    | cons x xr =>
      rw [hxd] at hf
      simp only [fitL, Bool.and_eq_true, beq_iff_eq] at hf
      have hxr : xs.drop (k + 1) = xr := by rw [← List.drop_drop, hxd]; rfl
      obtain ⟨a, hra, hVa⟩ := part_sim (P := P) (t := f.type) hx (off := k) (x := x) (by simp [readAt, kind1_agg hq, hxd])
      have hc : (Instr.checkKey empty (d + 1) f.type a).run P w = .ok () w := by
        rcases kind1_under hq with ⟨_, u⟩ | ⟨_, p, u⟩ | ⟨_, u⟩
        all_goals
          simp only [Instr.checkKey, Sem.run_bind, run_under u, Result.andThen_ok]
          rfl
      have := ih (k + 1) qs (by simpa using ha) hqs (by rw [hxr]; exact hf.2)
      rw [List.forIn_cons, Sem.run_bind, hB f a hn (by rw [ho]; exact hra) hc]
      exact this

theorem checkKey_run {t : TypeId} {k : AV} {v : Value} (hk : keyA P t k = true) (hV : V im w φ k v) (empty : Bool) (d : Nat) : (Instr.checkKey empty (d + 2) t v).run P w = .ok () w := by
  rcases key_kind hk with ⟨cs, ks, rfl, h1, h2⟩ | ⟨q, h1, h2⟩
  · obtain ⟨va, rfl, hva⟩ := VL.of_agg hV
    obtain ⟨fs, hu, _, _, hz, hm⟩ := kinds_under h1
    rw [Instr.checkKey]
    simp only [Sem.run_bind, run_under hu, Result.andThen_ok]
    rw [← Array.forIn_toList]
    rw [check_fields (P := P) empty d hva _ (fun f a hn h1 h2 => by simp only [ne_eq, hn, not_false_iff, if_true, Sem.run_bind, h1, Result.andThen_ok, h2]; rfl) fs.toList 0 ks (by simpa using hz) hm (by simpa using h2)]
    rfl
  · rcases kind1_under h2 with ⟨_, u⟩ | ⟨_, p, u⟩ | ⟨_, u⟩
    all_goals
      simp only [Instr.checkKey, Sem.run_bind, run_under u, Result.andThen_ok]
      rfl

/-- Entries that stand for one another. -/
def EntOK (im : Nat → Prop) (w : World) (φ : Phi) (aes : List (AV × AV × Nat)) (ces : List MapEntry) : Prop :=
  ces.length = aes.length ∧ ∀ (i : Nat) (e : AV × AV × Nat), aes[i]? = some e → ∃ ce : MapEntry, ces[i]? = some ce ∧ V im w φ e.1 ce.key ∧ V im w φ e.2.1 ce.val ∧ ce.born = e.2.2

theorem EntOK.head {e aes ce ces} (h : EntOK im w φ (e :: aes) (ce :: ces)) : V im w φ e.1 ce.key ∧ V im w φ e.2.1 ce.val ∧ ce.born = e.2.2 := by
  obtain ⟨ce', h1, h2⟩ := h.2 0 e rfl
  simp at h1; subst h1; exact h2
theorem EntOK.tail {e aes ce ces} (h : EntOK im w φ (e :: aes) (ce :: ces)) : EntOK im w φ aes ces :=
  ⟨by simpa using h.1, fun i x hx => by simpa using h.2 (i + 1) x (by simpa using hx)⟩

/-- What a search finds. -/
def FindOK (im : Nat → Prop) (w : World) (φ : Phi) : Option (Nat × AV) → Option (Nat × Value) → Prop
  | none, none => True
  | some (i, x), some (j, v) => i = j ∧ V im w φ x v
  | _, _ => False

theorem find_asking {t : TypeId} {k : AV} {kv : Value} {ks : List KD} (h1 : tKinds P t = some ks) {cs : List AV} (e : k = .agg cs) (hf : fitL ks cs = true) (hV : V im w φ k kv) :
    ∀ (aes : List (AV × AV × Nat)) (ces : List MapEntry) (i : Nat) (r : Option (Nat × AV)), EntOK im w φ aes ces → findA k aes i = some r → ∃ q, (Instr.findAsking t kv ces i).run P w = .ok q w ∧ FindOK im w φ r q := by
  intro aes
  induction aes with
  | nil =>
    intro ces i r hE hr
    have : ces = [] := List.eq_nil_of_length_eq_zero (by simpa using hE.1)
    subst this
    simp [findA] at hr; subst hr
    exact ⟨none, rfl, trivial⟩
  | cons e' aes ih =>
    intro ces i r hE hr
    cases ces with
    | nil => have := hE.1; simp at this
    | cons ce ces =>
      obtain ⟨k', v', b'⟩ := e'
      obtain ⟨hk', hv', _⟩ := hE.head
      simp only [findA] at hr
      cases hq : keyEq k k' with
      | none => simp [hq] at hr
      | some b =>
        have heq : (Op.equal t kv ce.key).run P w = .ok b w := by
          subst e
          cases k' with
          | agg cs' =>
            obtain ⟨va, rfl, hva⟩ := VL.of_agg hV
            obtain ⟨vb, e2, hvb⟩ := VL.of_agg hk'
            rw [e2]
            exact eqStruct_run h1 hva hvb hf (by simpa [keyEq] using hq) 9998
          | _ => simp [keyEq, eq1] at hq
        cases b with
        | true =>
          simp [hq] at hr; subst hr
          exact ⟨some (i, ce.val), by simp [Instr.findAsking, heq], rfl, hv'⟩
        | false =>
          simp [hq] at hr
          obtain ⟨q, h2, h3⟩ := ih ces (i + 1) r hE.tail hr
          exact ⟨q, by simp [Instr.findAsking, heq, h2], h3⟩

theorem find_now {d : TypeDesc} {k : AV} {kv : Value} {q : KD} (hq : kindOf k = some q) (hd : (q = .b ∧ d = .bool) ∨ (q = .i ∧ ∃ p, d = .int p) ∨ (q = .s ∧ d = .string)) (hV : V im w φ k kv) :
    ∀ (aes : List (AV × AV × Nat)) (ces : List MapEntry) (i : Nat) (r : Option (Nat × AV)), EntOK im w φ aes ces → findA k aes i = some r → ∃ q, Instr.findNow d kv ces i = some q ∧ FindOK im w φ r q := by
  intro aes
  induction aes with
  | nil =>
    intro ces i r hE hr
    have : ces = [] := List.eq_nil_of_length_eq_zero (by simpa using hE.1)
    subst this
    simp [findA] at hr; subst hr
    exact ⟨none, rfl, trivial⟩
  | cons e' aes ih =>
    intro ces i r hE hr
    cases ces with
    | nil => have := hE.1; simp at this
    | cons ce ces =>
      obtain ⟨k', v', b'⟩ := e'
      obtain ⟨hk', hv', _⟩ := hE.head
      simp only [findA] at hr
      cases hq2 : keyEq k k' with
      | none => simp [hq2] at hr
      | some b =>
        have hs : Instr.sameNow d kv ce.key = some b := by
          cases k with
          | bool x =>
            cases k' <;> simp [keyEq, eq1] at hq2
            rcases hd with ⟨_, rfl⟩ | ⟨e, _⟩ | ⟨e, _⟩
            · rw [hV.bool_inv, hk'.bool_inv]; simp [Instr.sameNow, hq2]
            · simp [kindOf] at hq; subst e; cases hq
            · simp [kindOf] at hq; subst e; cases hq
          | int p x =>
            cases k' <;> simp [keyEq, eq1] at hq2
            obtain ⟨rfl, hq2⟩ := hq2
            rcases hd with ⟨e, _⟩ | ⟨_, p', rfl⟩ | ⟨e, _⟩
            · simp [kindOf] at hq; subst e; cases hq
            · rw [hV.int_inv, hk'.int_inv]; simp only [Instr.sameNow, if_true, ← hq2]; rfl
            · simp [kindOf] at hq; subst e; cases hq
          | str x =>
            cases k' <;> simp [keyEq, eq1] at hq2
            rcases hd with ⟨e, _⟩ | ⟨e, _⟩ | ⟨_, rfl⟩
            · simp [kindOf] at hq; subst e; cases hq
            · simp [kindOf] at hq; subst e; cases hq
            · rw [hV.str_inv, hk'.str_inv]; simp [Instr.sameNow, beq_toListBytes, hq2]
          | _ => simp [kindOf] at hq
        cases b with
        | true =>
          simp [hq2] at hr; subst hr
          exact ⟨some (i, ce.val), by simp [Instr.findNow, hs], rfl, hv'⟩
        | false =>
          simp [hq2] at hr
          obtain ⟨q, h2, h3⟩ := ih ces (i + 1) r hE.tail hr
          exact ⟨q, by simp [Instr.findNow, hs, h2], h3⟩

theorem findKey_run {t : TypeId} {k : AV} {kv : Value} (hk : keyA P t k = true) (hV : V im w φ k kv) {aes : List (AV × AV × Nat)} {ces : List MapEntry} (hE : EntOK im w φ aes ces) {r : Option (Nat × AV)} (hr : findA k aes 0 = some r) :
    ∃ q, (Instr.findKey t kv ces).run P w = .ok q w ∧ FindOK im w φ r q := by
  rcases key_kind hk with ⟨cs, ks, rfl, h1, h2⟩ | ⟨q, h1, h2⟩
  · obtain ⟨q, h3, h4⟩ := find_asking h1 rfl h2 hV aes ces 0 r hE hr
    obtain ⟨fs, hu, _⟩ := kinds_under h1
    refine ⟨q, ?_, h4⟩
    simp only [Instr.findKey, Sem.run_bind, run_under hu, Result.andThen_ok]
    cases ces with
    | nil => simp [Instr.findNow]; simpa [Instr.findAsking] using h3
    | cons ce ces =>
      have : Instr.findNow (.struct fs) kv (ce :: ces) 0 = none := by
        obtain ⟨va, rfl, _⟩ := VL.of_agg hV
        simp [Instr.findNow, Instr.sameNow]
      simp only [this]
      exact h3
  · rcases kind1_under h2 with ⟨e, u⟩ | ⟨e, p, u⟩ | ⟨e, u⟩
    · obtain ⟨x, h3, h4⟩ := find_now (d := .bool) h1 (.inl ⟨e, rfl⟩) hV aes ces 0 r hE hr
      exact ⟨x, by simp [Instr.findKey, run_under u, h3], h4⟩
    · obtain ⟨x, h3, h4⟩ := find_now (d := .int p) h1 (.inr (.inl ⟨e, p, rfl⟩)) hV aes ces 0 r hE hr
      exact ⟨x, by simp [Instr.findKey, run_under u, h3], h4⟩
    · obtain ⟨x, h3, h4⟩ := find_now (d := .string) h1 (.inr (.inr ⟨e, rfl⟩)) hV aes ces 0 r hE hr
      exact ⟨x, by simp [Instr.findKey, run_under u, h3], h4⟩

theorem ObjOK.ents {m : Meta} {aes : List (AV × AV × Nat)} {clock : Nat} (ho : ObjOK im w φ m (.map aes clock)) : ∃ ces : Array MapEntry, w.heap[m.blk]? = some (.map ces clock) ∧ EntOK im w φ aes ces.toList ∧ ¬ im m.blk := by
  obtain ⟨ces, h1, h2, h3, h4⟩ := ho
  refine ⟨ces, h1, ⟨by simpa using h2, fun i e he => ?_⟩, h3⟩
  obtain ⟨ce, k1, k2⟩ := h4 i (List.getElem?_eq_some_iff.1 he).1 e he
  exact ⟨ce, by simpa using k1, k2⟩

theorem run_getObj {r : Nat} {es : Array MapEntry} {clock : Nat} (hb : w.heap[r]? = some (.map es clock)) : (getObj r).run P w = .ok (.map es clock) w := by
  simp [getObj, Sem.run, hb]

theorem opR_sim {ρA : Operand → AV} {ρ : Operand → Value} (hρ : ∀ x, V im w φ (ρA x) (ρ x)) (hR : Rel im w φ h) (o : Oper) {v : AV} (hv : opR P ρA o.op h = some v) :
    ∃ u, (execOp ρ o).run P w = .ok (.value u) w ∧ V im w φ v u := by
  obtain ⟨dst, op, ty, pos, after, guard⟩ := o
  simp only at hv
  cases op with
  | load t a =>
    simp only [opR] at hv
    have ha := hρ a
    split at hv
    · rename_i id i o e
      rw [e] at ha
      split at hv
      · rename_i es fr he
        split at hv
        · rename_i el hel
          generalize hav : ρ a = av at ha
          cases ha with
          | ptr _ _ _ m hm =>
            have hO := hR.obj id m hm
            rw [he] at hO
            obtain ⟨u, h1, h2⟩ := row_load (P := P) hO hel hv
            exact ⟨u, by simp [execOp, hav, Instr.loadAt, Instr.sureAddr, h1], h2⟩
        · cases hv
      · cases hv
    · rename_i c e
      rw [e] at ha
      generalize hav : ρ a = av at ha
      cases ha with
      | cptr _ a' vs k1 k2 k3 k3o =>
        obtain ⟨u, h1, h2⟩ := load_sim (P := P) (φ := phi0) vs k2 k3 hv
        exact ⟨u, by simp [execOp, hav, Instr.loadAt, Instr.sureAddr, h1], h2.phi (phi0_le φ)⟩
    · cases hv
  | lookup t m k ok =>
    simp only [opR] at hv
    split at hv
    · rename_i kt et hmt
      have u := map_under hmt
      split at hv
      · rename_i hk
        have hkV := hρ k
        have hmV := hρ m
        split at hv
        · rename_i e
          rw [e] at hmV
          split at hv
          · rename_i z hz
            cases hv
            obtain ⟨zv, hzr, hzz⟩ := run_zero (w := w) hz
            have hzV : V im w φ z zv := zav_V hzz
            generalize hav : ρ m = mv at hmV
            cases hmV
            obtain ⟨q, h3, h4⟩ := findKey_run (P := P) hk hkV (aes := []) (ces := []) ⟨rfl, fun i e he => by simp at he⟩ (r := none) rfl
            have hq : q = none := by cases q with | none => rfl | some _ => exact h4.elim
            subst hq
            have hc := checkKey_run hk hkV true 9998
            cases ok
            · exact ⟨zv, by simp [execOp, hav, Instr.lookup, run_under u, hc, h3, hzr], hzV⟩
            · exact ⟨.tuple #[zv, .bool false], by simp [execOp, hav, Instr.lookup, run_under u, hc, h3, hzr], (VL.cons hzV (VL.cons (.bool false) VL.nil)).mk_tup⟩
          · cases hv
        · rename_i id e
          rw [e] at hmV
          split at hv
          · rename_i es clock he
            generalize hav : ρ m = mv at hmV
            cases hmV with
            | map _ mm hm =>
              have hO := hR.obj id mm hm
              rw [he] at hO
              obtain ⟨ces, hb, hE, _⟩ := hO.ents
              split at hv
              · rename_i i x hf
                obtain ⟨q, h3, h4⟩ := findKey_run (P := P) hk hkV hE hf
                cases q with
                | none => exact h4.elim
                | some jv =>
                  obtain ⟨j, xv⟩ := jv
                  obtain ⟨_, hxV⟩ := h4
                  have hc := checkKey_run hk hkV ces.isEmpty 9998
                  cases hv
                  cases ok
                  · exact ⟨xv, by simp [execOp, hav, Instr.lookup, run_under u, run_getObj hb, hc, h3], hxV⟩
                  · exact ⟨.tuple #[xv, .bool true], by simp [execOp, hav, Instr.lookup, run_under u, run_getObj hb, hc, h3], (VL.cons hxV (VL.cons (.bool true) VL.nil)).mk_tup⟩
              · rename_i hf
                obtain ⟨q, h3, h4⟩ := findKey_run (P := P) hk hkV hE hf
                have hq : q = none := by cases q with | none => rfl | some _ => exact h4.elim
                subst hq
                split at hv
                · rename_i z hz
                  cases hv
                  obtain ⟨zv, hzr, hzz⟩ := run_zero (w := w) hz
                  have hzV : V im w φ z zv := zav_V hzz
                  have hc := checkKey_run hk hkV ces.isEmpty 9998
                  cases ok
                  · exact ⟨zv, by simp [execOp, hav, Instr.lookup, run_under u, run_getObj hb, hc, h3, hzr], hzV⟩
                  · exact ⟨.tuple #[zv, .bool false], by simp [execOp, hav, Instr.lookup, run_under u, run_getObj hb, hc, h3, hzr], (VL.cons hzV (VL.cons (.bool false) VL.nil)).mk_tup⟩
                · cases hv
              · cases hv
          · cases hv
        · cases hv
      · cases hv
    · cases hv
  | call c =>
    obtain ⟨callee, args, ats⟩ := c
    cases callee with
    | value f => simp [opR] at hv
    | invoke r m => simp [opR] at hv
    | builtin b =>
      cases b with
      | len =>
        simp only [opR] at hv
        split at hv
        · rename_i t x ht hx
          have hV := hρ x
          have hat : (args.map ρ)[0]? = some (ρ x) := by simp [hx]
          split at hv
          · rename_i id e
            rw [e] at hV
            split at hv
            · rename_i es clock he
              split at hv
              · rename_i hs
                cases hv
                obtain ⟨⟨kt, et⟩, hmt⟩ := Option.isSome_iff_exists.1 hs
                generalize hav : ρ x = xv at hV hat
                cases hV with
                | map _ mm hm =>
                  have hO := hR.obj id mm hm
                  rw [he] at hO
                  obtain ⟨ces, hb, hE, _⟩ := hO.ents
                  refine ⟨.int .i64 es.length, ?_, .int _ _⟩
                  have hl : ces.size = es.length := by simpa using hE.1
                  simp [execOp, resolve, invoke, builtin, Builtin.len_, ht, hat, run_under (map_under hmt), run_getObj hb, goInt, hl]
              · cases hv
            · cases hv
          · cases hv
        · cases hv
      | _ => simp [opR] at hv
  | _ => simp [opR] at hv
end
end Go.Pv
