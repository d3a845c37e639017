/- A text of rules that is drawn. -/
import Derived.Test.YtmbnmbgihcmapaaDoorRz
namespace Go.Proofs.YtmbnmbgihcmapaaDoor
open Go Go.RowKit
set_option linter.all false
set_option pp.deepTerms true
set_option pp.maxSteps 200000
set_option maxRecDepth 100000
set_option maxHeartbeats 8000000
def xDT : XSpec [.val false (.sl .byte)] := ⟨fun x => x.1.length ≤ 1048576, fun x K => ∀ (s : List UInt8), s.length ≤ 14000 → K (.str s) []⟩
def txtW : List (List UInt8) := [[97, 108, 108, 111, 119, 32, 97, 110, 110, 32, 114, 101, 97, 100, 32, 116, 111, 112, 105, 99], [97, 108, 108, 111, 119, 32, 97, 110, 110, 32, 114, 101, 97, 100, 32, 116, 111, 112, 105, 99, 32, 97], [10], [97, 108, 108, 111, 119, 32, 32, 97, 110, 110, 32, 114, 101, 97, 100, 32, 116, 111, 112, 105, 99, 32, 97, 10], [103, 114, 97, 110, 116, 32, 97, 110, 110, 32, 114, 101, 97, 100, 32, 116, 111, 112, 105, 99, 32, 97, 10], [100, 101, 110, 121, 32, 42, 32, 97, 108, 108, 32, 103, 114, 111, 117, 112, 32, 42, 10], [97, 108, 108, 111, 119, 32, 97, 110, 110, 32, 114, 101, 97, 100, 32, 116, 111, 112, 105, 99, 32, 97, 42, 98, 10], [97, 108, 108, 111, 119, 32, 97, 110, 110, 32, 114, 101, 97, 100, 32, 116, 111, 112, 105, 99, 32, 42, 42, 10], [97, 108, 108, 111, 119, 32, 42, 32, 97, 108, 108, 10]]
theorem nth_le_of {l : List (List UInt8)} {b : Nat} (h : ∀ x ∈ l, x.length ≤ b) (i : Nat) : (nth .str l i).length ≤ b := by
  by_cases hi : i < l.length
  · refine h _ ?_
    unfold nth; rw [List.getD_eq_getElem?_getD, List.getElem?_eq_getElem hi]; exact List.getElem_mem hi
  · unfold nth; rw [List.getD_eq_getElem?_getD, List.getElem?_eq_none (by omega)]; simp [Ty.dflt]
theorem app_le {s t : List UInt8} (h : s.length ≤ 6800) (k : t.length ≤ 30) : s.length + t.length ≤ 9223372036854775807 := by omega
theorem app_le2 {s t : List UInt8} (h : s.length ≤ 6800) (k : t.length ≤ 30) : (s ++ t).length ≤ 14000 := by rw [List.length_append]; omega
theorem app_le3 {s t : List UInt8} {i j : Nat} (h : s.length ≤ 6800) (k : t.length ≤ 30) : (s.take i ++ (t ++ s.drop j)).length ≤ 14000 := by simp only [List.length_append, List.length_take, List.length_drop]; omega
theorem app_le4 {s t : List UInt8} {i : Nat} (h : s.length ≤ 6800) (k : t.length ≤ 30) : min i s.length + t.length ≤ 9223372036854775807 := by omega
theorem app_le5 {s t : List UInt8} {i j : Nat} (h : s.length ≤ 6800) (k : t.length ≤ 30) : min i s.length + t.length + (s.length - j) ≤ 9223372036854775807 := by omega
theorem txtW_len (i : Nat) : (nth .str txtW i).length ≤ 30 := nth_le_of (by decide) i
theorem bitW_len (i : Nat) : (nth .str [[32], [42], [120], [10]] i).length ≤ 30 := nth_le_of (by decide) i
theorem dt_x : XSpecOk Tryd.prog 22 xDT := by
  intro x hp
  obtain ⟨code, u⟩ := x; change List UInt8 at code
  have hp : code.length ≤ 1048576 := hp
  refine XOk_intro [false] [] rfl Tryd.func22 rfl ?_
  intro hw C hC
  have hΓ := CtrOk.add f24_ok rfl (CtrOk.add f25_ok rfl (CtrsOk.addX new_x rfl (CtrsOk.addX size_x rfl (CtrsOk.addX rules_x rfl (CtrsOk.addX below_x rfl (CtrsOk.addX pick_x rfl (noC_ok : CtrsOk Tryd.prog noC)))))))
  refine AWp_cut hΓ mixed tau ⟨[.sl .byte code] ++ List.replicate 79 .any, []⟩ True [] (by simp [hC, encOs]) ?_ fun _ => ?_
  · simp [Tryd.f22, maxB]
  refine AWp_cutE hΓ mixed tau (fun y : Cur × Unit => ⟨[.sl .byte code, .any, .any, .ptr 0 0] ++ List.replicate 76 .any, [.cells 84 (flat T84 y.1)]⟩) (fun y => CurOk y.1) ?_ ?_
  · simp [-Bool.forall_bool, -Bool.exists_bool, xNew, hp]
    intro c1 c2 c3 k
    exact ⟨c1, c2, c3, k, [0], by simp [hC, encOs], by decide, rfl, by simp [leH, leO, leT, leA]⟩
  rintro ⟨⟨b, i, h⟩, u⟩ hc
  change List UInt8 at b; change Int at i h
  have hc : CurOk (b, i, h) := hc
  refine AWp_cut hΓ mixed tau ⟨[.sl .byte code, .any, .any, .ptr 0 0, .str []] ++ List.replicate 75 .any, [.cells 84 (flat T84 (b, i, h))]⟩ True [0] (by simp [hC, encOs]) ?_ fun _ => ?_
  · simp [maxB]
  refine AWp_cutE hΓ mixed tau (fun y : Cur × List T37.D => ⟨[.sl .byte code, .any, .any, .ptr 0 0, .str [], .osl 1 y.2.length] ++ List.replicate 74 .any, [.cells 84 (flat T84 y.1), .arr T37 37 y.2]⟩) (fun y => CurOk y.1 ∧ y.2.length ≤ 110) ?_ ?_
  · simp [-Bool.forall_bool, -Bool.exists_bool, xSize, xRules, hp, hc]
    repeat' (first | with_reducible refine And.intro ?_ ?_ | with_reducible intro _ | (show ¬ _; intro _))
    all_goals first
      | assumption
      | omega
      | exact ⟨_, _, _, _, ⟨by assumption, by assumption⟩, [0, 1], by simp [hC, encOs], by decide, ⟨rfl, rfl, rfl⟩, by simp [leH, leO, leT, leA]⟩
      | trace_state
  rintro ⟨⟨b, i, h⟩, l⟩ ⟨hc, hl⟩
  change List UInt8 at b; change Int at i h; change List T37.D at l
  have hc : CurOk (b, i, h) := hc
  have hl : l.length ≤ 110 := hl
  refine AWp_cutE hΓ mixed tau (fun y : List UInt8 × Unit => ⟨[.sl .byte code, .any, .any, .ptr 0 0, .str y.1] ++ List.replicate 75 .any, [.cells 84 (flat T84 (b, i, h))]⟩) (fun y => y.1.length ≤ 6800) ?_ ?_
  · simp
    refine AWp_loop_ind hΓ mixed tau (fun y : List UInt8 × Nat => ⟨[.sl .byte code, .any, .any, .ptr 0 0, .str y.1, .osl 1 l.length, .int .i64 y.2] ++ List.replicate 73 .any, [.cells 84 (flat T84 (b, i, h)), .arr T37 37 l]⟩) (fun y => l.length - y.2) (fun y => y.1.length ≤ 61 * y.2 ∧ y.2 ≤ l.length) ([], 0) [0, 1] ?_ ?_ ?_
    · simp [hC, encOs]
    · simp
    rintro ⟨s, j⟩ ⟨h1, h2⟩
    change List UInt8 at s; change Nat at j
    have h1 : s.length ≤ 61 * j := h1
    have h2 : j ≤ l.length := h2
    have w1 : j < l.length → IntKind.i64.wrap ((j : Int) + 1) = ((j + 1 : Nat) : Int) := fun h => by rw [wrap64_id (by omega)]; omega
    rcases hf : nth T37 l j with ⟨d, rw, rm, ro, rn, bg⟩
    change Bool at d bg; change List UInt8 at rw rn; change Int at rm ro
    simp (maxSteps := 4000000) [-Bool.forall_bool, -Bool.exists_bool, wRule, wLine, maxB, hf]
    repeat' (first | with_reducible refine And.intro ?_ ?_ | with_reducible intro _ | (show ¬ _; intro _))
    all_goals first
      | assumption
      | omega
      | (have hq := (lineR_len (by assumption)).2; omega)
      | (have hq := (lineR_len (r := (d, rw, rm, ro, rn, bg)) (by assumption)).2
         exact ⟨s ++ lineR (d, rw, rm, ro, rn, bg), j + 1, ⟨by rw [List.length_append]; omega, by omega⟩, by omega, [0, 1], by simp [hC, encOs], by decide, ⟨rfl, rfl, rfl, w1 (by assumption)⟩, by simp [leH, leO, leT, leA]⟩)
      | exact ⟨s, j + 1, ⟨by omega, by omega⟩, by omega, [0, 1], by simp [hC, encOs], by decide, ⟨rfl, rfl, rfl, w1 (by assumption)⟩, by simp [leH, leO, leT, leA]⟩
      | exact ⟨s, by omega, [0], by simp [hC, encOs], by decide, ⟨rfl, rfl⟩, by simp [leH, leO, leT, leA]⟩
      | trace_state
  rintro ⟨s, u⟩ hs
  change List UInt8 at s
  have hs : s.length ≤ 6800 := hs
  have hΓ2 := CtrsOk.addP (id := 15) (p := .take 0 (.take 1 (.take 2 (.take 3 (.take 4 (.take 5 (.take 6 (.take 7 (.one 8 .done))))))))) hΓ
  have hΓ3 := CtrsOk.addPX (id := 19) (X := [0]) (p := .take 0 (.take 1 (.take 2 (.take 3 (.take 7 (.take 8 (.take 9 (.one 4 (.one 5 (.one 6 (.one 10 (.one 11 .done)))))))))))) hΓ2
  have w1 : ∀ v : Int, 0 ≤ v → (0 < s.length → v < (s.length : Int)) → 0 < s.length → IntKind.i64.wrap (v + 1) = v + 1 := fun v h1 h2 h3 => wrap64_id (by have := h2 h3; omega)
  refine AWp_cutE hΓ3 mixed tau (fun y : List UInt8 × Unit => ⟨[.sl .byte code, .any, .any, .any, .str y.1] ++ List.replicate 75 .any, []⟩) (fun y => y.1.length ≤ 14000) ?_ ?_
  · simp (maxSteps := 8000000) [-Bool.forall_bool, -Bool.exists_bool, xBelow, xPick, hc, maxB]
    repeat' (first | with_reducible refine And.intro ?_ ?_ | with_reducible intro _ | (show ¬ _; intro _))
    all_goals first
      | assumption
      | omega
      | (show (_ : Bool) = true; kernel_rfl)
      | exact app_le hs (nth_le_of (by decide) _)
      | exact app_le4 hs (nth_le_of (by decide) _)
      | exact app_le5 hs (nth_le_of (by decide) _)
      | exact ⟨_, app_le2 hs (nth_le_of (by decide) _), [], by simp [hC, encOs], by decide, rfl, by simp [leH]⟩
      | exact ⟨_, by omega, [], by simp [hC, encOs], by decide, rfl, by simp [leH]⟩
      | (rw [w1 _ (by assumption) (by assumption) (by assumption)]; have := (by assumption : 0 < s.length → _) (by assumption); omega)
      | exact ⟨_, by simp; omega, [], by simp [hC, encOs], by decide, rfl, by simp [leH]⟩
      | exact ⟨_, app_le3 hs (nth_le_of (by decide) _), [], by simp [hC, encOs], by decide, rfl, by simp [leH]⟩
      | trace_state
  rintro ⟨s, u⟩ hs
  change List UInt8 at s
  have hs : s.length ≤ 14000 := hs
  refine ACode_ok (τ := tau) hΓ mixed _ _ _ ?_
  simp
  simp [-Bool.forall_bool, -Bool.exists_bool, ↓retXQ_ret, ↓retXQ_normal, xDT]
  exact fun K hK => hK _ hs
end Go.Proofs.YtmbnmbgihcmapaaDoor
