/- colsOf as a contract for regions that draw their order. -/
import Derived.Test.YtfinneebcfcdjaaIa
namespace Go.Proofs.Ytfinneebcfcdjaa
open Go Go.RowKit
set_option linter.all false
set_option pp.deepTerms true
set_option pp.maxSteps 200000
set_option maxRecDepth 100000
set_option maxHeartbeats 4000000
def hCo : HSpec [.val false (.sl T32)] := ⟨fun x => x.1.length ≤ 1048576, fun x => .osl 0 (colsL x.1).length, fun x => [.arr .str 9 (colsL x.1)]⟩
theorem h108_ok : HSpecOk Try.prog 108 hCo := by
  intro x hp
  obtain ⟨l, u⟩ := x; change List T32.D at l
  have hp : l.length ≤ 1048576 := hp
  refine HOk_intro [true] [] rfl Try.func108 rfl ?_
  intro hw C hC
  have hΓ := (noC_ok : CtrsOk Try.prog noC)
  refine ACode_ok (τ := tau) hΓ mixed _ _ _ ?_
  simp [Try.f108, hCo]
  intro hmx
  refine AWp_nil 3 .str 9 rfl ?_
  refine AWp_loop_ind hΓ mixed tau (fun i : Nat => ⟨[.sl T32 l, .any, .any, .osl 0 (colsL (l.take i)).length, .any, .any, .sl T32 l, .int .i64 l.length, .int .i64 i] ++ List.replicate 13 .any, [.arr .str 9 (colsL (l.take i))]⟩) (fun i => l.length - i) (fun i => i ≤ l.length) 0 [0] ?_ ?_ ?_
  · simp [hC, encOs, colsL]
  · simp
  · intro i hi
    rcases hf : nth T32 l i with ⟨op, num, nm⟩
    change Int at op num; change List UInt8 at nm
    have hl := colsL_len (l.take i)
    rw [List.length_take] at hl
    have w2 : i < l.length → IntKind.i64.wrap ((i : Int) + 1) = i + 1 := fun h => wrap64_id (by omega)
    have hst : i < l.length → colsL (l.take (i + 1)) = colsL (l.take i) ++ (if op = 2 then [nm] else []) := fun h => by rw [colsL_take h, hf]; rfl
    generalize hX : colsL (l.take i) = X at hl hst ⊢
    simp [hf]
    repeat' (first | with_reducible refine And.intro ?_ ?_ | with_reducible intro _ | (show ¬ _; intro _))
    all_goals first
      | assumption
      | omega
      | (refine ⟨i + 1, by omega, by omega, [3], by simp [hC, encOs], by decide, ⟨⟨rfl, ?_⟩, w2 (by assumption)⟩, ?_⟩
         · rw [hst (by assumption), if_pos (by assumption)]; simp
         · rw [hst (by assumption), if_pos (by assumption)]; simp [leH, leO])
      | (refine ⟨i + 1, by omega, by omega, [0], by simp [hC, encOs], by decide, ⟨⟨rfl, ?_⟩, w2 (by assumption)⟩, ?_⟩
         · rw [hst (by assumption), if_neg (by assumption)]; simp
         · rw [hst (by assumption), if_neg (by assumption)]; simp [leH, leO])
      | (have e : X = colsL l := by rw [← hX, List.take_of_length_le (by assumption)]
         subst e
         simp [↓retHQ_ret, ↓retHQ_normal]; done)
      | trace_state
theorem XSpecOk.ofH1 {P : Program} {f : FuncId} {As : List HA} {s : HSpec As} {t : XSpec As} (h : HSpecOk P f s) (hp : ∀ x, t.pre x → s.pre x) (ha : ∀ x, t.pre x → ∀ K, t.all x K → K (s.res x) (s.heap x)) : XSpecOk P f t := by
  intro x hx w Φ L W vs hI hsz hv
  exact (h x (hp x hx) w Φ L W vs hI hsz hv).mono fun e w' ⟨v, Φ', L', he, hI', hr⟩ => ⟨v, Φ', L', _, _, fun K hk => ha x hx K hk, he, hI', hr⟩
def xCo : XSpec [.val false (.sl T32)] := ⟨fun x => x.1.length ≤ 1048576, fun x K => K (.osl 0 (colsL x.1).length) [.arr .str 9 (colsL x.1)]⟩
theorem x108_ok : XSpecOk Try.prog 108 xCo := XSpecOk.ofH1 h108_ok (fun x h => h) fun x h K hk => hk
end Go.Proofs.Ytfinneebcfcdjaa
