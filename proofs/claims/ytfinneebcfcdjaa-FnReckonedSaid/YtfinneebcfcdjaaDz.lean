/- What is drawn for Reckon. -/
import Derived.Test.YtfinneebcfcdjaaDy
namespace Go.Proofs.Ytfinneebcfcdjaa
open Go Go.RowKit
set_option linter.all false
set_option maxRecDepth 100000
set_option maxHeartbeats 8000000
def xReck : XSpec [.val false (.sl .byte)] := ⟨fun x => x.1.length ≤ 1048576, fun x K => ∀ (l : List T32.D) (cols : List (List UInt8)) (row : List Int), l.length ≤ 32 → cols.length ≤ 3 → row.length ≤ 3 → K (.tup [.sl T32 l, .sl .str cols, .sl (.int .i64) row]) []⟩
theorem reck_x : XSpecOk Try.prog 11 xReck := by
  intro x hp
  obtain ⟨code, u⟩ := x; change List UInt8 at code
  have hp : code.length ≤ 1048576 := hp
  refine XOk_intro [false, false, false] [] rfl Try.func11 rfl ?_
  intro hw C hC
  have hΓ := CtrsOk.addX (expr_x 4) rfl (CtrsOk.addX new_x rfl (CtrsOk.addX pickI_x rfl (CtrsOk.addX below_x rfl (noC_ok : CtrsOk Try.prog noC))))
  refine ACode_ok (τ := tau) hΓ mixed _ _ _ ?_
  simp (maxSteps := 4000000) [Try.f11, maxB, xReck, xExpr, xBelow, xPickI, xNew, hp]
  intro b i h hc
  refine AWp_loop_ind hΓ mixed tau (fun x : Cur × List Int => ⟨[.sl .byte code, .any, .nilsl, .nilsl, .nilsl, .ptr 0 0, .osl 1 3, .osl 2 x.2.length, .int .i64 x.2.length] ++ List.replicate 45 .any, [.cells 169 (flat T169 x.1), .arr .str 9 [[97], [98], [99]], .arr (.int .i64) 3 x.2]⟩) (fun x => 3 - x.2.length) (fun x => CurOk x.1 ∧ x.2.length ≤ 3) ((b, i, h), []) [0, 1, 2] ?_ ?_ ?_
  · simp [hC, encOs]
  · exact ⟨hc, by simp⟩
  rintro ⟨⟨b, i, h⟩, row⟩ ⟨hc, hr⟩
  change List Int at row
  simp only at hr
  have w1 : IntKind.i64.wrap ((row.length : Int) + 1) = row.length + 1 := wrap64_id (by omega)
  have w2 : ∀ v : Int, v < 3 → 0 ≤ v → IntKind.i64.wrap (2 + v) = 2 + v := fun v h1 h2 => wrap64_id (by omega)
  simp (maxSteps := 8000000) [maxB, xExpr, xBelow, xPickI, xNew, hc, w1]
  repeat' (first | with_reducible refine And.intro ?_ ?_ | intro _)
  all_goals first
    | assumption
    | omega
    | (rw [w2 _ (by assumption) (by assumption)]; omega)
    | (simp [↓retXQ_ret, ↓retXQ_normal]; done)
    | (simp [↓retXQ_ret, ↓retXQ_normal]; exact fun K hK => hK _ _ _ (by first | omega | (simp; done) | (simp; omega)) (by first | omega | (simp; done) | (simp; omega)) (by first | omega | (simp; done) | (simp; omega)))
    | (rename_i i _ _ _ _ _; exact ⟨_, _, _, row ++ [nth (.int .i64) [0, 1, -1, 7, -13, 100, 1000000000000000, -1000000000000000, 31622777] i], ⟨by assumption, by simp; omega⟩, by simp; omega, [0, 1, 5], by simp [hC, encOs], by decide, ⟨by simp, by simp, by simp, by simp⟩, by simp [leH, leO, leT, leA]⟩)
end Go.Proofs.Ytfinneebcfcdjaa
