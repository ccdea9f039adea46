/- A part of the proof that AccessRights returns true wherever its input is of bulk at most 1048576: what the functions that it reaches answer. No theorem of the claim stands here. -/
import Derived.Test.YtedapkgjicmhjaaGreatDoorPvImp
import Derived.Laws.Externs
import Derived.Lib.Bytealg
namespace Go.Pv
open Go Go.RowKit
set_option linter.unusedSimpArgs false
set_option linter.unusedVariables false

theorem VL.two {im : Nat → Prop} {w : World} {φ : Phi} {x y : AV} {vals : List Value} (h : VL im w φ [x, y] vals) : ∃ a b, vals = [a, b] ∧ V im w φ x a ∧ V im w φ y b := by
  cases vals with
  | nil => have := h.1; simp at this
  | cons a r =>
    have ht := h.tail
    cases r with
    | nil => have := ht.1; simp at this
    | cons b r =>
      have := ht.tail.1
      have hr : r = [] := by simpa using this
      subst hr
      exact ⟨a, b, rfl, h.head, ht.head⟩
theorem ext_PS {P : Program} {gl : Nat → List AV} {f : FuncId} {fn : Func} {e : Array Value → Sem Value} {F : List AV → Option AV} (hf : P.funcs[f]? = some fn) (hname : (fn.name == "runtime.NumGoroutine") = false)
    (hb : fn.body.isNone = true) (hn : Extern.findNext fn = none) (he : Extern.find fn = some e)
    (h : ∀ args v, F args = some v → ∀ (im : Nat → Prop) (w : World) (vals : List Value), GlOK gl im w → VL im w phi0 args vals → ∃ u, (e vals.toArray).run P w = .ok u w ∧ V im w phi0 v u) : PS P gl f F := by
  intro args v hv im w vals him hgl hA
  obtain ⟨u, h1, h2⟩ := h args v hv im w vals hgl hA
  rw [run_callFunc_extern hf hname hb hn he, h1]
  exact ⟨im, .refl _ _, fun b hb => hb, fun b hb => .inl hb, h2⟩

def countF : List AV → Option AV
  | [.str s, .int .u8 c] => some (.int .i64 (Lib.countByte s c.toNat.toUInt8))
  | _ => none
theorem count_PS {P : Program} {gl : Nat → List AV} {f : FuncId} {fn : Func} (hf : P.funcs[f]? = some fn) (hname : (fn.name == "runtime.NumGoroutine") = false)
    (hb : fn.body.isNone = true) (hn : Extern.findNext fn = none) (he : Extern.find fn = some Extern.BytealgCount.count) : PS P gl f countF := by
  refine ext_PS hf hname hb hn he fun args v hv im w vals hgl hA => ?_
  unfold countF at hv
  split at hv
  · cases hv
    obtain ⟨a, b, rfl, h1, h2⟩ := hA.two
    cases h1
    cases h2
    exact ⟨_, by simpa using Lib.run_countString _ _ _, .int _ _⟩
  · cases hv
def indexByteF : List AV → Option AV
  | [.str s, .int .u8 c] => some (.int .i64 (Lib.indexByte s c.toNat.toUInt8))
  | _ => none
theorem indexByte_PS {P : Program} {gl : Nat → List AV} {f : FuncId} {fn : Func} (hf : P.funcs[f]? = some fn) (hname : (fn.name == "runtime.NumGoroutine") = false)
    (hb : fn.body.isNone = true) (hn : Extern.findNext fn = none) (he : Extern.find fn = some Extern.BytealgIndexByte.indexByte) : PS P gl f indexByteF := by
  refine ext_PS hf hname hb hn he fun args v hv im w vals hgl hA => ?_
  unfold indexByteF at hv
  split at hv
  · cases hv
    obtain ⟨a, b, rfl, h1, h2⟩ := hA.two
    cases h1
    cases h2
    exact ⟨_, by simpa using Lib.run_indexByteString _ _ _, .int _ _⟩
  · cases hv
end Go.Pv
