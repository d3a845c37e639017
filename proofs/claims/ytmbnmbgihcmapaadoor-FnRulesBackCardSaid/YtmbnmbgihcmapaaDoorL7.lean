/- The law FnRulesBack. -/
import Derived.Test.YtmbnmbgihcmapaaDoorRs
import Derived.Test.YtmbnmbgihcmapaaDoorPf
namespace Go.Proofs.YtmbnmbgihcmapaaDoor
open Go Go.RowKit
set_option linter.all false
set_option pp.deepTerms true
set_option pp.maxSteps 200000
set_option maxRecDepth 100000
set_option maxHeartbeats 8000000
def wBig7 : Spec [(false, .sl .byte)] := ⟨fun _ => True, fun x _ => .bool (decide (1048576 < (x.1.length : Int))), fun _ => []⟩
theorem big7_ok : FSpecOk Tryd.prog 15 wBig7 := by
  intro x n hp
  obtain ⟨code, u⟩ := x; change List UInt8 at code
  refine FnOk_intro [.one .w] Tryd.func15 rfl ?_
  intro hw C hC
  refine ACode_ok (τ := tau) noC_ok mixed _ _ _ ?_
  simp [Tryd.f15, wBig7]
  intro _
  simp [↓retQ_ret, ↓retQ_normal]
theorem showR_le (l : List Rule) : (showR l).length ≤ 4000 := by
  cases e : showOk l with
  | true => have := (showOk_all e).2.2; rw [showR_yes e]; exact this
  | false => rw [showR_no (by simp [e])]; simp
def law7 : Spec [(false, .sl .byte), (false, .sl .byte)] := ⟨fun _ => True, fun _ _ => .bool true, fun _ => []⟩
theorem law7_ok : FSpecOk Tryd.prog 7 law7 := by
  intro x n hp
  obtain ⟨code, more, u⟩ := x; change List UInt8 at code more
  refine FnOk_intro [.one .w] Tryd.func7 rfl ?_
  intro hw C hC
  have hΓ := CtrsOk.addP (id := 14) (p := .take 0 (.take 1 (.take 2 (.take 3 (.take 4 (.take 5 (.take 6 (.take 7 (.one 8 .done))))))))) (CtrOk.add big7_ok rfl (CtrOk.add f9_ok rfl (CtrOk.add f11_ok rfl (CtrOk.add f18_ok rfl (CtrOk.add f19_ok rfl (CtrsOk.addX ds_x rfl (CtrsOk.addX dt_x rfl (noC_ok : CtrsOk Tryd.prog noC))))))))
  refine AWp_cut hΓ mixed tau ⟨[.sl .byte code, .sl .byte more] ++ List.replicate 91 .any, []⟩ True [] (by simp [hC]) ?_ fun _ => ?_
  · simp [Tryd.f7]
  refine AWp_cut hΓ mixed tau ⟨[.sl .byte code, .sl .byte more] ++ List.replicate 91 .any, []⟩ (code.length ≤ 1048576 ∧ more.length ≤ 1048576) [] (by simp [hC]) ?_ fun hb => ?_
  · simp [wBig7]
    repeat' (first | with_reducible refine And.intro ?_ ?_ | with_reducible intro _ | (show ¬ _; intro _))
    all_goals first
      | omega
      | (simp [↓retQ_ret, law7]; done)
      | trace_state
  refine AWp_cutE hΓ mixed tau (fun y : List T37.D => ⟨[.sl .byte code, .sl .byte more, .any, .any, .any, .sl T37 y] ++ List.replicate 87 .any, []⟩) (fun y => y.length ≤ 110) ?_ ?_
  · simp [xDS, hb.1]
    intro rs h1
    exact ⟨rs, h1, [], by simp [hC], by decide, rfl, by simp [leH]⟩
  intro l hl
  change List T37.D at l
  have hl : l.length ≤ 110 := hl
  have hS := showR_le l
  refine AWp_cut hΓ mixed tau ⟨[.sl .byte code, .sl .byte more, .any, .any, .any, .sl T37 l, .str (showR l)] ++ List.replicate 86 .any, []⟩ True [] (by simp [hC]) ?_ fun _ => ?_
  · simp [wShow, maxB]
  refine AWp_cut hΓ mixed tau ⟨[.sl .byte code, .sl .byte more, .any, .any, .any, .sl T37 l, .str (showR l)] ++ List.replicate 86 .any, []⟩ True [] (by simp [hC]) ?_ fun _ => ?_
  · simp [wShow, maxB]
    repeat' (first | with_reducible refine And.intro ?_ ?_ | with_reducible intro _ | (show ¬ _; intro _))
    all_goals first
      | omega
      | contradiction
      | trace_state
  refine AWp_cut hΓ mixed tau ⟨[.sl .byte code, .sl .byte more, .any, .any, .any, .sl T37 l, .str (showR l), .osl 0 (prs (showR l)).1.length, .int .i64 (prs (showR l)).2] ++ List.replicate 84 .any, [.arr T37 37 (prs (showR l)).1]⟩ True [0] (by simp [hC]) ?_ fun _ => ?_
  · simp [wPrs, maxB]
    omega
  refine AWp_cut hΓ mixed tau ⟨[.sl .byte code, .sl .byte more] ++ List.replicate 91 .any, []⟩ True [] (by simp [hC]) ?_ fun _ => ?_
  · by_cases hs : showR l = []
    · simp [hs, maxB]
    · rw [show_prs hs]
      have hs1 : 0 < (showR l).length := List.length_pos_iff.2 hs
      simp [hs, maxB]
      refine fun _ => AWp_loop_ind hΓ mixed tau (fun i : Nat => ⟨[.sl .byte code, .sl .byte more, .any, .any, .any, .sl T37 l, .str (showR l), .osl 0 l.length, .any, .int .i64 i] ++ List.replicate 83 .any, [.arr T37 37 l]⟩) (fun i => l.length - i) (fun i => i ≤ l.length) 0 [0] ?_ ?_ ?_
      · simp [hC]
      · simp
      intro i hi
      have w2 : i < l.length → IntKind.i64.wrap ((i : Int) + 1) = ((i + 1 : Nat) : Int) := fun h => by rw [wrap64_id (by omega)]; omega
      rcases hf : nth T37 l i with ⟨d, rw, rm, ro, rn, bg⟩
      change Bool at d bg; change List UInt8 at rw rn; change Int at rm ro
      simp (maxSteps := 4000000) [maxB, hf]
      repeat' (first | with_reducible refine And.intro ?_ ?_ | with_reducible intro _ | (show ¬ _; intro _))
      all_goals first
        | omega
        | contradiction
        | (show (_ : Bool) = true; kernel_rfl)
        | exact ⟨i + 1, by omega, by omega, [0], by simp [hC], by decide, ⟨rfl, w2 (by assumption)⟩, by simp [leH, leO, leT, leA]⟩
        | trace_state
  refine AWp_cutE hΓ mixed tau (fun y : List UInt8 × Unit => ⟨[.sl .byte code, .sl .byte more] ++ List.replicate 8 .any ++ [.str y.1] ++ List.replicate 82 .any, []⟩) (fun y => y.1.length ≤ 14000) ?_ ?_
  · simp [xDT, hb.2]
    intro s h1
    exact ⟨s, h1, [], by simp [hC], by decide, rfl, by simp [leH]⟩
  rintro ⟨s, u⟩ hs
  change List UInt8 at s
  have hs : s.length ≤ 14000 := hs
  refine AWp_cut hΓ mixed tau ⟨[.sl .byte code, .sl .byte more] ++ List.replicate 8 .any ++ [.str s, .osl 0 (prs s).1.length, .int .i64 (prs s).2] ++ List.replicate 80 .any, [.arr T37 37 (prs s).1]⟩ True [0] (by simp [hC]) ?_ fun _ => ?_
  · simp [wPrs, maxB]
    omega
  refine AWp_cut hΓ mixed tau ⟨[.sl .byte code, .sl .byte more] ++ List.replicate 8 .any ++ [.str s, .osl 0 (prs s).1.length, .int .i64 (prs s).2] ++ List.replicate 80 .any, [.arr T37 37 (prs s).1]⟩ True [0] (by simp [hC]) ?_ fun _ => ?_
  · simp [wPrs, maxB]
    omega
  refine AWp_cut hΓ mixed tau ⟨[.sl .byte code, .sl .byte more] ++ List.replicate 8 .any ++ [.str s, .osl 0 (prs s).1.length, .int .i64 (prs s).2] ++ List.replicate 3 .any ++ [.int .i64 1] ++ List.replicate 76 .any, [.arr T37 37 (prs s).1]⟩ True [0] (by simp [hC]) ?_ fun _ => ?_
  · simp [wPrs, maxB, prs_x]
  have hps := @prs_show s
  generalize prs s = pr at hps ⊢
  obtain ⟨R, m⟩ := pr
  change List T37.D at R; change Nat at m
  have hps : m = 0 → showR R = s := hps
  refine ACode_ok (τ := tau) hΓ mixed _ _ _ ?_
  simp (maxSteps := 4000000) [wShow, maxB]
  repeat' (first | with_reducible refine And.intro ?_ ?_ | with_reducible intro _ | (show ¬ _; intro _))
  all_goals first
    | omega
    | contradiction
    | (show (_ : Bool) = true; kernel_rfl)
    | (simp [↓retQ_ret, ↓retQ_normal, law7]; done)
    | (by_cases hm : m = 0
       · simp [hps hm, ↓retQ_ret, ↓retQ_normal, law7]; done
       · simp [↓retQ_ret, ↓retQ_normal, law7]; omega)
    | trace_state
end Go.Proofs.YtmbnmbgihcmapaaDoor
