/- What is drawn, known only to exist: the cursor's contracts. -/
import Derived.Test.YtmbnmbgihcmapaaDoorDa
namespace Go.Proofs.YtmbnmbgihcmapaaDoor
open Go Go.RowKit
set_option linter.all false
set_option maxRecDepth 100000
set_option maxHeartbeats 8000000
theorem XSpecOk.ofH {P : Program} {f : FuncId} {As : List HA} {s : HSpec As} {t : XSpec As} (h : HSpecOk P f s) (hp : ∀ x, t.pre x → s.pre x) (ha : ∀ x, t.pre x → ∀ K, t.all x K → K (s.res x) (s.heap x)) : XSpecOk P f t := by
  intro x hx w Φ L W vs hI hsz hv
  exact (h x (hp x hx) w Φ L W vs hI hsz hv).mono fun e w' ⟨v, Φ', L', he, hI', hr⟩ => ⟨v, Φ', L', _, _, fun K hk => ha x hx K hk, he, hI', hr⟩
theorem XSpecOk.weaken {P : Program} {f : FuncId} {As : List HA} {s t : XSpec As} (h : XSpecOk P f s) (hp : ∀ x, t.pre x → s.pre x) (ha : ∀ x, t.pre x → ∀ K, t.all x K → s.all x K) : XSpecOk P f t := by
  intro x hx w Φ L W vs hI hsz hv
  exact (h x (hp x hx) w Φ L W vs hI hsz hv).mono fun e w' ⟨v, Φ', L', av, hh, hk, he, hI', hr⟩ => ⟨v, Φ', L', av, hh, fun K hK => hk K (ha x hx K hK), he, hI', hr⟩
def xBelow : XSpec [.ref 84 T84, .val false (.int .i64)] := ⟨fun x => CurOk x.1, fun x K => ∀ (v : Int) (c : Cur), 0 ≤ v → (0 < x.2.1 → v < x.2.1) → (x.2.1 ≤ 0 → v = 0) → CurOk c → K (.int .i64 v) [.cells 84 (flat T84 c)]⟩
def xOnce : XSpec [.ref 84 T84, .val false (.int .i64)] := ⟨fun x => CurOk x.1, fun x K => ∀ (v : Bool) (c : Cur), CurOk c → K (.bool v) [.cells 84 (flat T84 c)]⟩
def xNew : XSpec [.val false (.sl .byte)] := ⟨fun x => x.1.length ≤ 1048576, fun x K => ∀ c : Cur, CurOk c → K (.ptr 0 0) [.cells 84 (flat T84 c)]⟩
def xPickI : XSpec [.ref 84 T84, .val false (.sl (.int .i64))] := ⟨fun x => CurOk x.1 ∧ 0 < x.2.1.length, fun x K => ∀ (i : Nat) (c : Cur), i < x.2.1.length → CurOk c → K (.int .i64 (nth (.int .i64) x.2.1 i)) [.cells 84 (flat T84 c)]⟩
theorem below_x : XSpecOk Tryd.prog 35 xBelow := by
  refine XSpecOk.ofH below_ok (fun x h => h) fun x h K hk => ?_
  have hv := belowV_in x.1 x.2.1
  exact hk _ _ hv.1 hv.2.1 (fun h0 => by unfold belowV; rw [if_pos h0]) (belowS_ok h _)
theorem once_x : XSpecOk Tryd.prog 37 xOnce := XSpecOk.ofH once_ok (fun x h => h) fun x h K hk => hk _ _ (belowS_ok h _)
theorem new_x : XSpecOk Tryd.prog 34 xNew := XSpecOk.ofH new_ok (fun x h => h) fun x h K hk => hk _ (newC_ok _)
theorem pickI_x : XSpecOk Tryd.prog 38 xPickI := by
  refine XSpecOk.ofH pickI_ok (fun x h => h) fun x h K hk => ?_
  obtain ⟨h1, h2⟩ := h
  have hv := belowV_in x.1 x.2.1.length
  have := hv.2.1 (by omega)
  exact hk _ _ (by omega) (belowS_ok h1 _)
def xPick : XSpec [.ref 84 T84, .val false (.sl .str)] := ⟨fun x => CurOk x.1 ∧ 0 < x.2.1.length, fun x K => ∀ (i : Nat) (c : Cur), i < x.2.1.length → CurOk c → K (.str (nth .str x.2.1 i)) [.cells 84 (flat T84 c)]⟩
theorem pick_x : XSpecOk Tryd.prog 39 xPick := by
  intro x hp
  obtain ⟨⟨b, i, h⟩, l, u⟩ := x; change List UInt8 at b; change Int at i h; change List (List UInt8) at l
  obtain ⟨hp, hl⟩ : CurOk (b, i, h) ∧ 0 < l.length := hp
  refine XOk_intro [false] [0] rfl Tryd.func39 rfl ?_
  intro hw C hC
  refine ACode_ok (τ := tau) (CtrsOk.addX below_x rfl (noC_ok : CtrsOk Tryd.prog noC)) mixed _ _ _ ?_
  simp [Tryd.f39, xPick, xBelow]
  intro _
  refine ⟨hp, fun v a a1 b' h1 h2 h3 h4 => ⟨⟨h1, h2 hl⟩, ?_⟩⟩
  simp [↓retXQ_ret, ↓retXQ_normal]
  have := h2 hl
  exact fun K hK => hK _ _ _ _ (by omega) h4
end Go.Proofs.YtmbnmbgihcmapaaDoor
