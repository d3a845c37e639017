/- strings.Compare, off the shelf; slotLess. -/
import Derived.Test.YtfinneebcfcdjaaGb
import Derived.Shelf.Small.Strs
namespace Go.Proofs.Ytfinneebcfcdjaa
open Go Go.RowKit
set_option linter.all false
set_option maxRecDepth 100000
set_option maxHeartbeats 4000000
def lays106_ren : Go.Shelf.Ren := ⟨fun | 106 => 162 | 213 => 165 | 265 => 166 | n => n, fun | 9 => 9 | 3 => 3 | n => n, fun | n => n⟩
theorem lays106 : Go.Proofs.Lays.n106 Try.prog lays106_ren := {
  mixed := by kernel_rfl
  f106 := Try.func162.trans (congrArg some (by kernel_rfl))
  f213 := Try.func165.trans (congrArg some (by kernel_rfl))
  f265 := Try.func166.trans (congrArg some (by kernel_rfl))
  t3 := Try.underlying3
  a3 := Try.isAgg3
  z3 := Try.sizeOf3
  v3 := Try.zeroValue3
  t9 := Try.underlying9
  a9 := Try.isAgg9
  z9 := Try.sizeOf9
  v9 := Try.zeroValue9 }
/-- A call that makes nothing, and hands back one word. -/
theorem FnOk.of_word {P : Program} {f : FuncId} {args : List AV} {n : Nat} {res : AV} (h : ∀ (w : World) (Φ : Nat → Option Obj) (vs : Array Value), (∀ b o, Φ b = some o → w.heap[b]? = some o) → vs.size = args.length → (∀ (i : Nat) c v, args[i]? = some c → vs[i]? = some v → CVal Φ [] c v) →
    Calls P f vs w fun e w' => ∃ v, e = .returned v ∧ Below w.heap.size w w' ∧ ∀ Φ L, CVal Φ L res v) : FnOk P f args n res [] := by
  intro w Φ L vs hL hf hsz hv
  refine (h w Φ vs hf hsz hv).mono fun e w' ⟨v, he, hb, hc⟩ => ⟨v, Φ, [], he, hb, More.refl _, fun b o hbo => ?_, fun b o hbo => .inl hbo, ⟨rfl, fun i o ho => by simp at ho, fun i o g cap ho => by simp at ho, fun i j o o' g cap cap' _ ho => by simp at ho, fun _ => [], fun i o ho => by simp at ho⟩, hc _ _⟩
  rw [hb.block b (lt_of_block (hf b o hbo))]; exact hf b o hbo
def wCmp : Spec [(false, .str), (false, .str)] := ⟨fun _ => True, fun x _ => .int .i64 (Lib.compareBytes x.1 x.2.1), fun _ => []⟩
theorem f162_ok : FSpecOk Try.prog 162 wCmp := by
  intro x n hp
  obtain ⟨a, b, u⟩ := x; change List UInt8 at a b
  refine FnOk.of_word fun w Φ vs hf hsz hv => ?_
  have hs2 : vs.size = 2 := hsz
  have h0 := hv 0 (.str a) vs[0] rfl (Array.getElem?_eq_getElem (by omega))
  have h1 := hv 1 (.str b) vs[1] rfl (Array.getElem?_eq_getElem (by omega))
  have e : vs = #[vs[0], vs[1]] := by
    apply Array.ext
    · simp [hs2]
    · intro i h1 h2
      have : i = 0 ∨ i = 1 := by simp at h2; omega
      rcases this with rfl | rfl <;> rfl
  generalize vs[0] = v0 at *
  generalize vs[1] = v1 at *
  subst e
  cases h0; cases h1
  have c := Any.strings_Compare lays106 ⟨a.toArray⟩ ⟨b.toArray⟩ w
  refine c.mono fun e w' ⟨he, hw⟩ => ?_
  subst hw
  exact ⟨_, he, Below.refl _ _, fun Φ L => .int _ _ (by have := cmp_in a b; simp [inR]; omega)⟩
/-- slotLess. -/
theorem f143_ok : FSpecOk Try.prog 143 wAhead := by
  intro x n hp
  obtain ⟨⟨a, i⟩, ⟨b, j⟩, u⟩ := x; change List UInt8 at a b; change Int at i j
  refine FnOk_intro [.one .w] Try.func143 rfl ?_
  intro hw C hC
  refine ACode_ok (τ := tau) (CtrOk.add f162_ok rfl (noC_ok : CtrsOk Try.prog noC)) mixed _ _ _ ?_
  simp [Try.f143, wAhead, wCmp, cmp_lt, cmp_eq0]
  refine ⟨fun h => ⟨h, fun e => ⟨h, e⟩⟩, ?_⟩
  simp [↓retQ_ret, ↓retQ_normal, aheadB]
end Go.Proofs.Ytfinneebcfcdjaa
