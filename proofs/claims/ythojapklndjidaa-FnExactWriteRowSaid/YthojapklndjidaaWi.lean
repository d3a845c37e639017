/- Rows as bytes: the contract of the program's WriteRow. -/
import Derived.Test.YthojapklndjidaaWr
namespace Go.Proofs.Ythojapklndjidaa
open Go Go.RowKit
set_option linter.all false
set_option pp.deepTerms true
set_option pp.maxSteps 200000
set_option maxRecDepth 100000
set_option maxHeartbeats 8000000
def wOff : Spec [(false, .int .i64)] := ⟨fun _ => True, fun x _ => .bool (inB x.1 0 1000000000), fun _ => []⟩
theorem f36_ok : FSpecOk Try.prog 36 wOff := by
  intro x n hp
  obtain ⟨a, u⟩ := x; change Int at a
  refine FnOk_intro [.one .w] Try.func36 rfl ?_
  intro hw C hC
  refine ACode_ok (τ := tau) (noC_ok : CtrsOk Try.prog noC) mixed _ _ _ ?_
  simp [Try.f36, wOff, inB]
  simp [↓retQ_ret, ↓retQ_normal]
theorem f11_ok : FSpecOk Try.prog 11 wWr := by
  intro x n hp
  obtain ⟨id, ⟨nm, fs⟩, r, u⟩ := x; change Int at id; change List UInt8 at nm; change List T73.D at fs; change List T70.D at r
  refine FnOk_intro [.one (.own .byte 5)] Try.func11 rfl ?_
  intro hw C hC
  have hr : -9223372036854775808 ≤ id ∧ id ≤ 9223372036854775807 := by simp [inR] at hw; omega
  have hΓ := CtrOk.add f36_ok rfl (CtrOk.add f37_ok rfl (CtrOk.add f38_ok rfl (CtrsOk.addH h39_ok rfl (noC_ok : CtrsOk Try.prog noC))))
  refine AWp_cut hΓ mixed tau ⟨[.int .i64 id, .any, .sl T70 r, .any, .ptr 0 0] ++ List.replicate 75 .any, [.cells 32 [.str nm, .sl T73 fs]]⟩ True [0] (by simp [hC]) ?_ fun _ => ?_
  · simp [Try.f11]
  refine AWp_cut hΓ mixed tau ⟨[.int .i64 id, .any, .sl T70 r, .any, .ptr 0 0] ++ List.replicate 75 .any, [.cells 32 [.str nm, .sl T73 fs]]⟩ (wrB id (nm, fs) r = true) [0] (by simp [hC]) ?_ fun hok => ?_
  · simp [wOff, wR]
    refine ⟨fun h => ?_, fun h1 h2 => by unfold wrB; rw [h1, h2]; rfl⟩
    have e : wrB id (nm, fs) r = false := by
      unfold wrB
      rcases h with h | h
      · rw [h]; simp
      · rw [h]; simp
    simp [↓retQ_ret, ↓retQ_normal, wWr, wr_no e]
  obtain ⟨hid, hlen, hl20, hval⟩ := wrB_ok hok
  simp only at hlen hval
  have hpl := putL_len hr
  refine AWp_cut hΓ mixed tau ⟨[.int .i64 id, .any, .sl T70 r, .any, .ptr 0 0, .any, .any, .osl 1 (putL id).length] ++ List.replicate 72 .any, [.cells 32 [.str nm, .sl T73 fs], .arr .byte 5 (putL id)]⟩ True [0, 1] (by simp [hC]) ?_ fun _ => ?_
  · simp [wPut]
  refine AWp_cut hΓ mixed tau ⟨[.int .i64 id, .any, .sl T70 r, .any, .ptr 0 0, .any, .any, .osl 1 (putL id ++ rowW fs r r.length).length] ++ List.replicate 72 .any, [.cells 32 [.str nm, .sl T73 fs], .arr .byte 5 (putL id ++ rowW fs r r.length)]⟩ True [0, 1] (by simp [hC]) ?_ fun _ => ?_
  · simp
    intro hmx
    refine AWp_loop_ind hΓ mixed tau (fun i : Nat => ⟨[.int .i64 id, .any, .sl T70 r, .any, .ptr 0 0, .any, .any, .osl 1 (putL id ++ rowW fs r i).length] ++ List.replicate 16 .any ++ [.sl T70 r, .int .i64 r.length, .int .i64 i] ++ List.replicate 53 .any, [.cells 32 [.str nm, .sl T73 fs], .arr .byte 5 (putL id ++ rowW fs r i)]⟩) (fun i => r.length - i) (fun i => i ≤ r.length) 0 [0, 1] ?_ ?_ ?_
    · simp [hC, rowW]
    · simp
    intro i hi
    have hl1 := rowW_len (fs := fs) (r := r) (i := i) fun j hj => hval j (by omega)
    have hS := rowW_succ fs r i
    have hF := fun h => field_ok (hval i h)
    rcases hf : nth T73 fs i with ⟨fn, fk, fl, fm, fwas, fx, vk0, vn0, vt0, vl0, vi0⟩
    rcases hv : nth T70 r i with ⟨vk, vn, vt, vl, vi⟩
    rw [hf, hv] at hS hF
    change Int at fk vk vn; change Bool at fl fm vl; change List UInt8 at vt; change List T76.D at vi
    have hSA : fm = true → vk = 0 → rowW fs r (i + 1) = rowW fs r i ++ [0] := fun a b => by rw [hS, fieldW, if_pos a, if_pos b]
    have hSB : fm = true → ¬ vk = 0 → rowW fs r (i + 1) = rowW fs r i ++ (1 :: bodyW (vk, vn, vt, vl, vi)) := fun a b => by rw [hS, fieldW, if_pos a, if_neg b]
    have hSC : fm = false → rowW fs r (i + 1) = rowW fs r i ++ bodyW (vk, vn, vt, vl, vi) := fun a => by rw [hS, fieldW, if_neg (by rw [a]; simp)]
    have hG : i < r.length → ¬ vk = 0 → vk = fk ∧ vl = fl ∧ vt.length ≤ 100 ∧ vi.length ≤ 30 ∧ ∀ x ∈ vi, (itemL vk x).length ≤ 110 ∧ x.2.length ≤ 100 := fun a b => (hF a).2.2 b
    have hk1 : fm = true → ¬ vk = 0 → ¬ vk = 0 := fun _ h => h
    have hk2 : i < r.length → fm = false → ¬ vk = 0 := fun a b c => by have := (hF a).2.1 c; simp only at this; rw [b] at this; cases this
    have w1 : i < r.length → IntKind.i64.wrap ((i : Int) + 1) = ((i + 1 : Nat) : Int) := fun h => by rw [wrap64_id (by omega)]; omega
    have ht : List.take ((putL id).length + (rowW fs r i).length) (putL id ++ rowW fs r i) = putL id ++ rowW fs r i := List.take_of_length_le (by simp)
    clear hS hF
    generalize hW : rowW fs r i = W at *
    have ht2 : List.take ((putL id).length + (W.length + 1)) (putL id ++ (W ++ [1])) = putL id ++ (W ++ [1]) := List.take_of_length_le (by simp)
    by_cases hi2 : i < r.length
    · by_cases h0 : vk = 0
      · have hfm : fm = true := by
          cases fm with
          | true => rfl
          | false => exact absurd h0 (hk2 hi2 rfl)
        simp (maxSteps := 8000000) [hf, hv, wPut, hItem, maxB, hi2, h0, hfm]
        repeat' (first | with_reducible refine And.intro ?_ ?_ | with_reducible intro _ | (show ¬ _; intro _))
        all_goals first
          | omega
          | assumption
          | contradiction
          | (have := (hG (by assumption) (by assumption)).2.2.1; omega)
          | (have := (hG (by assumption) (hk2 (by assumption) (by assumption))).2.2.1; omega)
          | (have := (hG (by assumption) (by assumption)).2.2.2.1; have := putL_len (n := (vi.length : Int)) (by omega); omega)
          | (have := (hG (by assumption) (hk2 (by assumption) (by assumption))).2.2.2.1; have := putL_len (n := (vi.length : Int)) (by omega); omega)
          | (have e := hSA (by assumption) (by assumption)
             first
               | exact ⟨i + 1, by omega, by omega, [0, 3], by simp [hC], by decide, ⟨rfl, ⟨rfl, by rw [e]; simp [Nat.add_assoc] <;> omega⟩, w1 (by assumption)⟩, by rw [e]; simp [leH, leO, leT, leA, ht]⟩
               | exact ⟨i + 1, by omega, by omega, [0, 4], by simp [hC], by decide, ⟨rfl, ⟨rfl, by rw [e]; simp [Nat.add_assoc] <;> omega⟩, w1 (by assumption)⟩, by rw [e]; simp [leH, leO, leT, leA, ht]⟩
               | exact ⟨i + 1, by omega, by omega, [0, 5], by simp [hC], by decide, ⟨rfl, ⟨rfl, by rw [e]; simp [Nat.add_assoc] <;> omega⟩, w1 (by assumption)⟩, by rw [e]; simp [leH, leO, leT, leA, ht]⟩
               | exact ⟨i + 1, by omega, by omega, [0, 6], by simp [hC], by decide, ⟨rfl, ⟨rfl, by rw [e]; simp [Nat.add_assoc] <;> omega⟩, w1 (by assumption)⟩, by rw [e]; simp [leH, leO, leT, leA, ht]⟩)
          | (have e := hSB (by assumption) (by assumption)
             rw [bodyW, if_pos (by assumption)] at e
             first
               | exact ⟨i + 1, by omega, by omega, [0, 3], by simp [hC], by decide, ⟨rfl, ⟨rfl, by rw [e]; simp [Nat.add_assoc] <;> omega⟩, w1 (by assumption)⟩, by rw [e]; simp [leH, leO, leT, leA, ht]⟩
               | exact ⟨i + 1, by omega, by omega, [0, 4], by simp [hC], by decide, ⟨rfl, ⟨rfl, by rw [e]; simp [Nat.add_assoc] <;> omega⟩, w1 (by assumption)⟩, by rw [e]; simp [leH, leO, leT, leA, ht]⟩
               | exact ⟨i + 1, by omega, by omega, [0, 5], by simp [hC], by decide, ⟨rfl, ⟨rfl, by rw [e]; simp [Nat.add_assoc] <;> omega⟩, w1 (by assumption)⟩, by rw [e]; simp [leH, leO, leT, leA, ht]⟩
               | exact ⟨i + 1, by omega, by omega, [0, 6], by simp [hC], by decide, ⟨rfl, ⟨rfl, by rw [e]; simp [Nat.add_assoc] <;> omega⟩, w1 (by assumption)⟩, by rw [e]; simp [leH, leO, leT, leA, ht]⟩)
          | (have e := hSC (by assumption)
             rw [bodyW, if_pos (by assumption)] at e
             first
               | exact ⟨i + 1, by omega, by omega, [0, 3], by simp [hC], by decide, ⟨rfl, ⟨rfl, by rw [e]; simp [Nat.add_assoc] <;> omega⟩, w1 (by assumption)⟩, by rw [e]; simp [leH, leO, leT, leA, ht]⟩
               | exact ⟨i + 1, by omega, by omega, [0, 4], by simp [hC], by decide, ⟨rfl, ⟨rfl, by rw [e]; simp [Nat.add_assoc] <;> omega⟩, w1 (by assumption)⟩, by rw [e]; simp [leH, leO, leT, leA, ht]⟩
               | exact ⟨i + 1, by omega, by omega, [0, 5], by simp [hC], by decide, ⟨rfl, ⟨rfl, by rw [e]; simp [Nat.add_assoc] <;> omega⟩, w1 (by assumption)⟩, by rw [e]; simp [leH, leO, leT, leA, ht]⟩
               | exact ⟨i + 1, by omega, by omega, [0, 6], by simp [hC], by decide, ⟨rfl, ⟨rfl, by rw [e]; simp [Nat.add_assoc] <;> omega⟩, w1 (by assumption)⟩, by rw [e]; simp [leH, leO, leT, leA, ht]⟩)
          | (have e := hSB (by assumption) (by assumption)
             rw [bodyW, if_neg (by simp [(by assumption : vl = true)])] at e
             have e : rowW fs r (i + 1) = W ++ (1 :: (putL vi.length ++ itemsL vk vi)) := e
             have hk0 : ¬ vk = 0 := hk1 (by assumption) (by assumption)
             obtain ⟨b1, b2, b3, b4, b5⟩ := hG (by assumption) hk0
             have hpv := putL_len (n := (vi.length : Int)) (by omega)
             refine AWp_loop_ind hΓ mixed tau (fun k : Nat => ⟨[.int .i64 id, .any, .sl T70 r, .any, .ptr 0 0, .any, .any, .osl 1 (putL id ++ (W ++ (1 :: (putL vi.length ++ itemsL vk (vi.take k))))).length, .any, .any, .ptr 2 0] ++ List.replicate 13 .any ++ [.sl T70 r, .int .i64 r.length, .int .i64 i] ++ List.replicate 39 .any ++ [.sl T76 vi, .int .i64 vi.length, .int .i64 k] ++ List.replicate 11 .any, [.cells 32 [.str nm, .sl T73 fs], .arr .byte 5 (putL id ++ (W ++ (1 :: (putL vi.length ++ itemsL vk (vi.take k))))), .cells 73 (flat T73 (fn, vk, vl, fm, fwas, fx, vk0, vn0, vt0, vl0, vi0))]⟩) (fun k => vi.length - k) (fun k => k ≤ vi.length) 0 [0, 7, 3] ?_ ?_ ?_
             · simp [hC, ht, ht2, Nat.add_assoc]
               have hn : (itemsL vk []).length = 0 := rfl
               first
                 | exact rfl
                 | exact ⟨by omega, rfl⟩
             · simp
             intro k hk
             have hfl := flat_len (l := vi.take k) (k := vk) fun x hx => (b5 x (List.mem_of_mem_take hx)).1
             have hst := fun h => flat_take (l := vi) (k := vk) (j := k) h
             have hxx := fun h => b5 _ (nth_mem76 (l := vi) (i := k) h)
             have w3 : k < vi.length → IntKind.i64.wrap ((k : Int) + 1) = ((k + 1 : Nat) : Int) := fun h => by rw [wrap64_id (by omega)]; omega
             have hln : (vi.take k).length ≤ 30 := by rw [List.length_take]; omega
             rcases hg : nth T76 vi k with ⟨xa, xs⟩
             rw [hg] at hst hxx
             change Int at xa; change List UInt8 at xs
             generalize hY : itemsL vk (vi.take k) = Y at *
             simp (maxSteps := 8000000) [hg, hItem, maxB]
             repeat' (first | with_reducible refine And.intro ?_ ?_ | with_reducible intro _ | (show ¬ _; intro _))
             all_goals first
               | omega
               | (show (_ : Bool) = true; kernel_rfl)
               | (have := (hxx (by assumption)).2; simp only at this; omega)
               | (have e3 := hst (by assumption)
                  first
                    | exact ⟨k + 1, by omega, by omega, [0, 4, 2], by simp [hC], by decide, ⟨rfl, ⟨rfl, by rw [e3]; simp; omega⟩, rfl, w3 (by assumption)⟩, by rw [e3]; simp [leH, leO, leT, leA, List.append_assoc]⟩
                    | exact ⟨k + 1, by omega, by omega, [0, 3, 2], by simp [hC], by decide, ⟨rfl, ⟨rfl, by rw [e3]; simp; omega⟩, rfl, w3 (by assumption)⟩, by rw [e3]; simp [leH, leO, leT, leA, List.append_assoc]⟩)
               | (have e4 : Y = itemsL vk vi := by rw [← hY, List.take_of_length_le (by omega)]
                  subst e4
                  exact ⟨i + 1, by omega, by omega, [0, 1], by simp [hC], by decide, ⟨rfl, ⟨rfl, by rw [e]; simp; try omega⟩, w1 (by assumption)⟩, by rw [e]; simp [leH, leO, leT, leA, List.append_assoc]⟩)
               | trace_state)
          | (have e := hSC (by assumption)
             rw [bodyW, if_neg (by simp [(by assumption : vl = true)])] at e
             have e : rowW fs r (i + 1) = W ++ (putL vi.length ++ itemsL vk vi) := e
             have hk0 : ¬ vk = 0 := hk2 (by assumption) (by assumption)
             obtain ⟨b1, b2, b3, b4, b5⟩ := hG (by assumption) hk0
             have hpv := putL_len (n := (vi.length : Int)) (by omega)
             refine AWp_loop_ind hΓ mixed tau (fun k : Nat => ⟨[.int .i64 id, .any, .sl T70 r, .any, .ptr 0 0, .any, .any, .osl 1 (putL id ++ (W ++ (putL vi.length ++ itemsL vk (vi.take k)))).length, .any, .any, .ptr 2 0] ++ List.replicate 13 .any ++ [.sl T70 r, .int .i64 r.length, .int .i64 i] ++ List.replicate 39 .any ++ [.sl T76 vi, .int .i64 vi.length, .int .i64 k] ++ List.replicate 11 .any, [.cells 32 [.str nm, .sl T73 fs], .arr .byte 5 (putL id ++ (W ++ (putL vi.length ++ itemsL vk (vi.take k)))), .cells 73 (flat T73 (fn, vk, vl, fm, fwas, fx, vk0, vn0, vt0, vl0, vi0))]⟩) (fun k => vi.length - k) (fun k => k ≤ vi.length) 0 [0, 5, 3] ?_ ?_ ?_
             · simp [hC, ht, ht2, Nat.add_assoc]
               have hn : (itemsL vk []).length = 0 := rfl
               first
                 | exact rfl
                 | exact ⟨by omega, rfl⟩
             · simp
             intro k hk
             have hfl := flat_len (l := vi.take k) (k := vk) fun x hx => (b5 x (List.mem_of_mem_take hx)).1
             have hst := fun h => flat_take (l := vi) (k := vk) (j := k) h
             have hxx := fun h => b5 _ (nth_mem76 (l := vi) (i := k) h)
             have w3 : k < vi.length → IntKind.i64.wrap ((k : Int) + 1) = ((k + 1 : Nat) : Int) := fun h => by rw [wrap64_id (by omega)]; omega
             have hln : (vi.take k).length ≤ 30 := by rw [List.length_take]; omega
             rcases hg : nth T76 vi k with ⟨xa, xs⟩
             rw [hg] at hst hxx
             change Int at xa; change List UInt8 at xs
             generalize hY : itemsL vk (vi.take k) = Y at *
             simp (maxSteps := 8000000) [hg, hItem, maxB]
             repeat' (first | with_reducible refine And.intro ?_ ?_ | with_reducible intro _ | (show ¬ _; intro _))
             all_goals first
               | omega
               | (show (_ : Bool) = true; kernel_rfl)
               | (have := (hxx (by assumption)).2; simp only at this; omega)
               | (have e3 := hst (by assumption)
                  first
                    | exact ⟨k + 1, by omega, by omega, [0, 4, 2], by simp [hC], by decide, ⟨rfl, ⟨rfl, by rw [e3]; simp; omega⟩, rfl, w3 (by assumption)⟩, by rw [e3]; simp [leH, leO, leT, leA, List.append_assoc]⟩
                    | exact ⟨k + 1, by omega, by omega, [0, 3, 2], by simp [hC], by decide, ⟨rfl, ⟨rfl, by rw [e3]; simp; omega⟩, rfl, w3 (by assumption)⟩, by rw [e3]; simp [leH, leO, leT, leA, List.append_assoc]⟩)
               | (have e4 : Y = itemsL vk vi := by rw [← hY, List.take_of_length_le (by omega)]
                  subst e4
                  exact ⟨i + 1, by omega, by omega, [0, 1], by simp [hC], by decide, ⟨rfl, ⟨rfl, by rw [e]; simp; try omega⟩, w1 (by assumption)⟩, by rw [e]; simp [leH, leO, leT, leA, List.append_assoc]⟩)
               | trace_state)
          | (have e : i = r.length := by omega
             rw [← hW, e])
          | trace_state
      · obtain ⟨e1, e2, _⟩ := hG hi2 h0
        subst e1; subst e2
        simp (maxSteps := 8000000) [hf, hv, wPut, hItem, maxB, hi2, h0]
        repeat' (first | with_reducible refine And.intro ?_ ?_ | with_reducible intro _ | (show ¬ _; intro _))
        all_goals first
          | omega
          | assumption
          | contradiction
          | (have := (hG (by assumption) (by assumption)).2.2.1; omega)
          | (have := (hG (by assumption) (hk2 (by assumption) (by assumption))).2.2.1; omega)
          | (have := (hG (by assumption) (by assumption)).2.2.2.1; have := putL_len (n := (vi.length : Int)) (by omega); omega)
          | (have := (hG (by assumption) (hk2 (by assumption) (by assumption))).2.2.2.1; have := putL_len (n := (vi.length : Int)) (by omega); omega)
          | (have e := hSA (by assumption) (by assumption)
             first
               | exact ⟨i + 1, by omega, by omega, [0, 3], by simp [hC], by decide, ⟨rfl, ⟨rfl, by rw [e]; simp [Nat.add_assoc] <;> omega⟩, w1 (by assumption)⟩, by rw [e]; simp [leH, leO, leT, leA, ht]⟩
               | exact ⟨i + 1, by omega, by omega, [0, 4], by simp [hC], by decide, ⟨rfl, ⟨rfl, by rw [e]; simp [Nat.add_assoc] <;> omega⟩, w1 (by assumption)⟩, by rw [e]; simp [leH, leO, leT, leA, ht]⟩
               | exact ⟨i + 1, by omega, by omega, [0, 5], by simp [hC], by decide, ⟨rfl, ⟨rfl, by rw [e]; simp [Nat.add_assoc] <;> omega⟩, w1 (by assumption)⟩, by rw [e]; simp [leH, leO, leT, leA, ht]⟩
               | exact ⟨i + 1, by omega, by omega, [0, 6], by simp [hC], by decide, ⟨rfl, ⟨rfl, by rw [e]; simp [Nat.add_assoc] <;> omega⟩, w1 (by assumption)⟩, by rw [e]; simp [leH, leO, leT, leA, ht]⟩)
          | (have e := hSB (by assumption) (by assumption)
             rw [bodyW, if_pos (by assumption)] at e
             first
               | exact ⟨i + 1, by omega, by omega, [0, 3], by simp [hC], by decide, ⟨rfl, ⟨rfl, by rw [e]; simp [Nat.add_assoc] <;> omega⟩, w1 (by assumption)⟩, by rw [e]; simp [leH, leO, leT, leA, ht]⟩
               | exact ⟨i + 1, by omega, by omega, [0, 4], by simp [hC], by decide, ⟨rfl, ⟨rfl, by rw [e]; simp [Nat.add_assoc] <;> omega⟩, w1 (by assumption)⟩, by rw [e]; simp [leH, leO, leT, leA, ht]⟩
               | exact ⟨i + 1, by omega, by omega, [0, 5], by simp [hC], by decide, ⟨rfl, ⟨rfl, by rw [e]; simp [Nat.add_assoc] <;> omega⟩, w1 (by assumption)⟩, by rw [e]; simp [leH, leO, leT, leA, ht]⟩
               | exact ⟨i + 1, by omega, by omega, [0, 6], by simp [hC], by decide, ⟨rfl, ⟨rfl, by rw [e]; simp [Nat.add_assoc] <;> omega⟩, w1 (by assumption)⟩, by rw [e]; simp [leH, leO, leT, leA, ht]⟩)
          | (have e := hSC (by assumption)
             rw [bodyW, if_pos (by assumption)] at e
             first
               | exact ⟨i + 1, by omega, by omega, [0, 3], by simp [hC], by decide, ⟨rfl, ⟨rfl, by rw [e]; simp [Nat.add_assoc] <;> omega⟩, w1 (by assumption)⟩, by rw [e]; simp [leH, leO, leT, leA, ht]⟩
               | exact ⟨i + 1, by omega, by omega, [0, 4], by simp [hC], by decide, ⟨rfl, ⟨rfl, by rw [e]; simp [Nat.add_assoc] <;> omega⟩, w1 (by assumption)⟩, by rw [e]; simp [leH, leO, leT, leA, ht]⟩
               | exact ⟨i + 1, by omega, by omega, [0, 5], by simp [hC], by decide, ⟨rfl, ⟨rfl, by rw [e]; simp [Nat.add_assoc] <;> omega⟩, w1 (by assumption)⟩, by rw [e]; simp [leH, leO, leT, leA, ht]⟩
               | exact ⟨i + 1, by omega, by omega, [0, 6], by simp [hC], by decide, ⟨rfl, ⟨rfl, by rw [e]; simp [Nat.add_assoc] <;> omega⟩, w1 (by assumption)⟩, by rw [e]; simp [leH, leO, leT, leA, ht]⟩)
          | (have e := hSB (by assumption) (by assumption)
             rw [bodyW, if_neg (by simp [(by assumption : vl = true)])] at e
             have e : rowW fs r (i + 1) = W ++ (1 :: (putL vi.length ++ itemsL vk vi)) := e
             have hk0 : ¬ vk = 0 := hk1 (by assumption) (by assumption)
             obtain ⟨b1, b2, b3, b4, b5⟩ := hG (by assumption) hk0
             have hpv := putL_len (n := (vi.length : Int)) (by omega)
             refine AWp_loop_ind hΓ mixed tau (fun k : Nat => ⟨[.int .i64 id, .any, .sl T70 r, .any, .ptr 0 0, .any, .any, .osl 1 (putL id ++ (W ++ (1 :: (putL vi.length ++ itemsL vk (vi.take k))))).length, .any, .any, .ptr 2 0] ++ List.replicate 13 .any ++ [.sl T70 r, .int .i64 r.length, .int .i64 i] ++ List.replicate 39 .any ++ [.sl T76 vi, .int .i64 vi.length, .int .i64 k] ++ List.replicate 11 .any, [.cells 32 [.str nm, .sl T73 fs], .arr .byte 5 (putL id ++ (W ++ (1 :: (putL vi.length ++ itemsL vk (vi.take k))))), .cells 73 (flat T73 (fn, vk, vl, fm, fwas, fx, vk0, vn0, vt0, vl0, vi0))]⟩) (fun k => vi.length - k) (fun k => k ≤ vi.length) 0 [0, 7, 3] ?_ ?_ ?_
             · simp [hC, ht, ht2, Nat.add_assoc]
               have hn : (itemsL vk []).length = 0 := rfl
               first
                 | exact rfl
                 | exact ⟨by omega, rfl⟩
             · simp
             intro k hk
             have hfl := flat_len (l := vi.take k) (k := vk) fun x hx => (b5 x (List.mem_of_mem_take hx)).1
             have hst := fun h => flat_take (l := vi) (k := vk) (j := k) h
             have hxx := fun h => b5 _ (nth_mem76 (l := vi) (i := k) h)
             have w3 : k < vi.length → IntKind.i64.wrap ((k : Int) + 1) = ((k + 1 : Nat) : Int) := fun h => by rw [wrap64_id (by omega)]; omega
             have hln : (vi.take k).length ≤ 30 := by rw [List.length_take]; omega
             rcases hg : nth T76 vi k with ⟨xa, xs⟩
             rw [hg] at hst hxx
             change Int at xa; change List UInt8 at xs
             generalize hY : itemsL vk (vi.take k) = Y at *
             simp (maxSteps := 8000000) [hg, hItem, maxB]
             repeat' (first | with_reducible refine And.intro ?_ ?_ | with_reducible intro _ | (show ¬ _; intro _))
             all_goals first
               | omega
               | (show (_ : Bool) = true; kernel_rfl)
               | (have := (hxx (by assumption)).2; simp only at this; omega)
               | (have e3 := hst (by assumption)
                  first
                    | exact ⟨k + 1, by omega, by omega, [0, 4, 2], by simp [hC], by decide, ⟨rfl, ⟨rfl, by rw [e3]; simp; omega⟩, rfl, w3 (by assumption)⟩, by rw [e3]; simp [leH, leO, leT, leA, List.append_assoc]⟩
                    | exact ⟨k + 1, by omega, by omega, [0, 3, 2], by simp [hC], by decide, ⟨rfl, ⟨rfl, by rw [e3]; simp; omega⟩, rfl, w3 (by assumption)⟩, by rw [e3]; simp [leH, leO, leT, leA, List.append_assoc]⟩)
               | (have e4 : Y = itemsL vk vi := by rw [← hY, List.take_of_length_le (by omega)]
                  subst e4
                  exact ⟨i + 1, by omega, by omega, [0, 1], by simp [hC], by decide, ⟨rfl, ⟨rfl, by rw [e]; simp; try omega⟩, w1 (by assumption)⟩, by rw [e]; simp [leH, leO, leT, leA, List.append_assoc]⟩)
               | trace_state)
          | (have e := hSC (by assumption)
             rw [bodyW, if_neg (by simp [(by assumption : vl = true)])] at e
             have e : rowW fs r (i + 1) = W ++ (putL vi.length ++ itemsL vk vi) := e
             have hk0 : ¬ vk = 0 := hk2 (by assumption) (by assumption)
             obtain ⟨b1, b2, b3, b4, b5⟩ := hG (by assumption) hk0
             have hpv := putL_len (n := (vi.length : Int)) (by omega)
             refine AWp_loop_ind hΓ mixed tau (fun k : Nat => ⟨[.int .i64 id, .any, .sl T70 r, .any, .ptr 0 0, .any, .any, .osl 1 (putL id ++ (W ++ (putL vi.length ++ itemsL vk (vi.take k)))).length, .any, .any, .ptr 2 0] ++ List.replicate 13 .any ++ [.sl T70 r, .int .i64 r.length, .int .i64 i] ++ List.replicate 39 .any ++ [.sl T76 vi, .int .i64 vi.length, .int .i64 k] ++ List.replicate 11 .any, [.cells 32 [.str nm, .sl T73 fs], .arr .byte 5 (putL id ++ (W ++ (putL vi.length ++ itemsL vk (vi.take k)))), .cells 73 (flat T73 (fn, vk, vl, fm, fwas, fx, vk0, vn0, vt0, vl0, vi0))]⟩) (fun k => vi.length - k) (fun k => k ≤ vi.length) 0 [0, 5, 3] ?_ ?_ ?_
             · simp [hC, ht, ht2, Nat.add_assoc]
               have hn : (itemsL vk []).length = 0 := rfl
               first
                 | exact rfl
                 | exact ⟨by omega, rfl⟩
             · simp
             intro k hk
             have hfl := flat_len (l := vi.take k) (k := vk) fun x hx => (b5 x (List.mem_of_mem_take hx)).1
             have hst := fun h => flat_take (l := vi) (k := vk) (j := k) h
             have hxx := fun h => b5 _ (nth_mem76 (l := vi) (i := k) h)
             have w3 : k < vi.length → IntKind.i64.wrap ((k : Int) + 1) = ((k + 1 : Nat) : Int) := fun h => by rw [wrap64_id (by omega)]; omega
             have hln : (vi.take k).length ≤ 30 := by rw [List.length_take]; omega
             rcases hg : nth T76 vi k with ⟨xa, xs⟩
             rw [hg] at hst hxx
             change Int at xa; change List UInt8 at xs
             generalize hY : itemsL vk (vi.take k) = Y at *
             simp (maxSteps := 8000000) [hg, hItem, maxB]
             repeat' (first | with_reducible refine And.intro ?_ ?_ | with_reducible intro _ | (show ¬ _; intro _))
             all_goals first
               | omega
               | (show (_ : Bool) = true; kernel_rfl)
               | (have := (hxx (by assumption)).2; simp only at this; omega)
               | (have e3 := hst (by assumption)
                  first
                    | exact ⟨k + 1, by omega, by omega, [0, 4, 2], by simp [hC], by decide, ⟨rfl, ⟨rfl, by rw [e3]; simp; omega⟩, rfl, w3 (by assumption)⟩, by rw [e3]; simp [leH, leO, leT, leA, List.append_assoc]⟩
                    | exact ⟨k + 1, by omega, by omega, [0, 3, 2], by simp [hC], by decide, ⟨rfl, ⟨rfl, by rw [e3]; simp; omega⟩, rfl, w3 (by assumption)⟩, by rw [e3]; simp [leH, leO, leT, leA, List.append_assoc]⟩)
               | (have e4 : Y = itemsL vk vi := by rw [← hY, List.take_of_length_le (by omega)]
                  subst e4
                  exact ⟨i + 1, by omega, by omega, [0, 1], by simp [hC], by decide, ⟨rfl, ⟨rfl, by rw [e]; simp; try omega⟩, w1 (by assumption)⟩, by rw [e]; simp [leH, leO, leT, leA, List.append_assoc]⟩)
               | trace_state)
          | (have e : i = r.length := by omega
             rw [← hW, e])
          | trace_state
    · have hi3 : r.length ≤ i := by omega
      simp (maxSteps := 8000000) [hf, hv, wPut, hItem, maxB]
      repeat' (first | with_reducible refine And.intro ?_ ?_ | with_reducible intro _ | (show ¬ _; intro _))
      all_goals first
        | omega
        | assumption
        | contradiction
        | (have := (hG (by assumption) (by assumption)).2.2.1; omega)
        | (have := (hG (by assumption) (hk2 (by assumption) (by assumption))).2.2.1; omega)
        | (have := (hG (by assumption) (by assumption)).2.2.2.1; have := putL_len (n := (vi.length : Int)) (by omega); omega)
        | (have := (hG (by assumption) (hk2 (by assumption) (by assumption))).2.2.2.1; have := putL_len (n := (vi.length : Int)) (by omega); omega)
        | (have e := hSA (by assumption) (by assumption)
           first
             | exact ⟨i + 1, by omega, by omega, [0, 3], by simp [hC], by decide, ⟨rfl, ⟨rfl, by rw [e]; simp [Nat.add_assoc] <;> omega⟩, w1 (by assumption)⟩, by rw [e]; simp [leH, leO, leT, leA, ht]⟩
             | exact ⟨i + 1, by omega, by omega, [0, 4], by simp [hC], by decide, ⟨rfl, ⟨rfl, by rw [e]; simp [Nat.add_assoc] <;> omega⟩, w1 (by assumption)⟩, by rw [e]; simp [leH, leO, leT, leA, ht]⟩
             | exact ⟨i + 1, by omega, by omega, [0, 5], by simp [hC], by decide, ⟨rfl, ⟨rfl, by rw [e]; simp [Nat.add_assoc] <;> omega⟩, w1 (by assumption)⟩, by rw [e]; simp [leH, leO, leT, leA, ht]⟩
             | exact ⟨i + 1, by omega, by omega, [0, 6], by simp [hC], by decide, ⟨rfl, ⟨rfl, by rw [e]; simp [Nat.add_assoc] <;> omega⟩, w1 (by assumption)⟩, by rw [e]; simp [leH, leO, leT, leA, ht]⟩)
        | (have e := hSB (by assumption) (by assumption)
           rw [bodyW, if_pos (by assumption)] at e
           first
             | exact ⟨i + 1, by omega, by omega, [0, 3], by simp [hC], by decide, ⟨rfl, ⟨rfl, by rw [e]; simp [Nat.add_assoc] <;> omega⟩, w1 (by assumption)⟩, by rw [e]; simp [leH, leO, leT, leA, ht]⟩
             | exact ⟨i + 1, by omega, by omega, [0, 4], by simp [hC], by decide, ⟨rfl, ⟨rfl, by rw [e]; simp [Nat.add_assoc] <;> omega⟩, w1 (by assumption)⟩, by rw [e]; simp [leH, leO, leT, leA, ht]⟩
             | exact ⟨i + 1, by omega, by omega, [0, 5], by simp [hC], by decide, ⟨rfl, ⟨rfl, by rw [e]; simp [Nat.add_assoc] <;> omega⟩, w1 (by assumption)⟩, by rw [e]; simp [leH, leO, leT, leA, ht]⟩
             | exact ⟨i + 1, by omega, by omega, [0, 6], by simp [hC], by decide, ⟨rfl, ⟨rfl, by rw [e]; simp [Nat.add_assoc] <;> omega⟩, w1 (by assumption)⟩, by rw [e]; simp [leH, leO, leT, leA, ht]⟩)
        | (have e := hSC (by assumption)
           rw [bodyW, if_pos (by assumption)] at e
           first
             | exact ⟨i + 1, by omega, by omega, [0, 3], by simp [hC], by decide, ⟨rfl, ⟨rfl, by rw [e]; simp [Nat.add_assoc] <;> omega⟩, w1 (by assumption)⟩, by rw [e]; simp [leH, leO, leT, leA, ht]⟩
             | exact ⟨i + 1, by omega, by omega, [0, 4], by simp [hC], by decide, ⟨rfl, ⟨rfl, by rw [e]; simp [Nat.add_assoc] <;> omega⟩, w1 (by assumption)⟩, by rw [e]; simp [leH, leO, leT, leA, ht]⟩
             | exact ⟨i + 1, by omega, by omega, [0, 5], by simp [hC], by decide, ⟨rfl, ⟨rfl, by rw [e]; simp [Nat.add_assoc] <;> omega⟩, w1 (by assumption)⟩, by rw [e]; simp [leH, leO, leT, leA, ht]⟩
             | exact ⟨i + 1, by omega, by omega, [0, 6], by simp [hC], by decide, ⟨rfl, ⟨rfl, by rw [e]; simp [Nat.add_assoc] <;> omega⟩, w1 (by assumption)⟩, by rw [e]; simp [leH, leO, leT, leA, ht]⟩)
        | (have e := hSB (by assumption) (by assumption)
           rw [bodyW, if_neg (by simp [(by assumption : vl = true)])] at e
           have e : rowW fs r (i + 1) = W ++ (1 :: (putL vi.length ++ itemsL vk vi)) := e
           have hk0 : ¬ vk = 0 := hk1 (by assumption) (by assumption)
           obtain ⟨b1, b2, b3, b4, b5⟩ := hG (by assumption) hk0
           have hpv := putL_len (n := (vi.length : Int)) (by omega)
           refine AWp_loop_ind hΓ mixed tau (fun k : Nat => ⟨[.int .i64 id, .any, .sl T70 r, .any, .ptr 0 0, .any, .any, .osl 1 (putL id ++ (W ++ (1 :: (putL vi.length ++ itemsL vk (vi.take k))))).length, .any, .any, .ptr 2 0] ++ List.replicate 13 .any ++ [.sl T70 r, .int .i64 r.length, .int .i64 i] ++ List.replicate 39 .any ++ [.sl T76 vi, .int .i64 vi.length, .int .i64 k] ++ List.replicate 11 .any, [.cells 32 [.str nm, .sl T73 fs], .arr .byte 5 (putL id ++ (W ++ (1 :: (putL vi.length ++ itemsL vk (vi.take k))))), .cells 73 (flat T73 (fn, vk, vl, fm, fwas, fx, vk0, vn0, vt0, vl0, vi0))]⟩) (fun k => vi.length - k) (fun k => k ≤ vi.length) 0 [0, 7, 3] ?_ ?_ ?_
           · simp [hC, ht, ht2, Nat.add_assoc]
             have hn : (itemsL vk []).length = 0 := rfl
             first
               | exact rfl
               | exact ⟨by omega, rfl⟩
           · simp
           intro k hk
           have hfl := flat_len (l := vi.take k) (k := vk) fun x hx => (b5 x (List.mem_of_mem_take hx)).1
           have hst := fun h => flat_take (l := vi) (k := vk) (j := k) h
           have hxx := fun h => b5 _ (nth_mem76 (l := vi) (i := k) h)
           have w3 : k < vi.length → IntKind.i64.wrap ((k : Int) + 1) = ((k + 1 : Nat) : Int) := fun h => by rw [wrap64_id (by omega)]; omega
           have hln : (vi.take k).length ≤ 30 := by rw [List.length_take]; omega
           rcases hg : nth T76 vi k with ⟨xa, xs⟩
           rw [hg] at hst hxx
           change Int at xa; change List UInt8 at xs
           generalize hY : itemsL vk (vi.take k) = Y at *
           simp (maxSteps := 8000000) [hg, hItem, maxB]
           repeat' (first | with_reducible refine And.intro ?_ ?_ | with_reducible intro _ | (show ¬ _; intro _))
           all_goals first
             | omega
             | (show (_ : Bool) = true; kernel_rfl)
             | (have := (hxx (by assumption)).2; simp only at this; omega)
             | (have e3 := hst (by assumption)
                first
                  | exact ⟨k + 1, by omega, by omega, [0, 4, 2], by simp [hC], by decide, ⟨rfl, ⟨rfl, by rw [e3]; simp; omega⟩, rfl, w3 (by assumption)⟩, by rw [e3]; simp [leH, leO, leT, leA, List.append_assoc]⟩
                  | exact ⟨k + 1, by omega, by omega, [0, 3, 2], by simp [hC], by decide, ⟨rfl, ⟨rfl, by rw [e3]; simp; omega⟩, rfl, w3 (by assumption)⟩, by rw [e3]; simp [leH, leO, leT, leA, List.append_assoc]⟩)
             | (have e4 : Y = itemsL vk vi := by rw [← hY, List.take_of_length_le (by omega)]
                subst e4
                exact ⟨i + 1, by omega, by omega, [0, 1], by simp [hC], by decide, ⟨rfl, ⟨rfl, by rw [e]; simp; try omega⟩, w1 (by assumption)⟩, by rw [e]; simp [leH, leO, leT, leA, List.append_assoc]⟩)
             | trace_state)
        | (have e := hSC (by assumption)
           rw [bodyW, if_neg (by simp [(by assumption : vl = true)])] at e
           have e : rowW fs r (i + 1) = W ++ (putL vi.length ++ itemsL vk vi) := e
           have hk0 : ¬ vk = 0 := hk2 (by assumption) (by assumption)
           obtain ⟨b1, b2, b3, b4, b5⟩ := hG (by assumption) hk0
           have hpv := putL_len (n := (vi.length : Int)) (by omega)
           refine AWp_loop_ind hΓ mixed tau (fun k : Nat => ⟨[.int .i64 id, .any, .sl T70 r, .any, .ptr 0 0, .any, .any, .osl 1 (putL id ++ (W ++ (putL vi.length ++ itemsL vk (vi.take k)))).length, .any, .any, .ptr 2 0] ++ List.replicate 13 .any ++ [.sl T70 r, .int .i64 r.length, .int .i64 i] ++ List.replicate 39 .any ++ [.sl T76 vi, .int .i64 vi.length, .int .i64 k] ++ List.replicate 11 .any, [.cells 32 [.str nm, .sl T73 fs], .arr .byte 5 (putL id ++ (W ++ (putL vi.length ++ itemsL vk (vi.take k)))), .cells 73 (flat T73 (fn, vk, vl, fm, fwas, fx, vk0, vn0, vt0, vl0, vi0))]⟩) (fun k => vi.length - k) (fun k => k ≤ vi.length) 0 [0, 5, 3] ?_ ?_ ?_
           · simp [hC, ht, ht2, Nat.add_assoc]
             have hn : (itemsL vk []).length = 0 := rfl
             first
               | exact rfl
               | exact ⟨by omega, rfl⟩
           · simp
           intro k hk
           have hfl := flat_len (l := vi.take k) (k := vk) fun x hx => (b5 x (List.mem_of_mem_take hx)).1
           have hst := fun h => flat_take (l := vi) (k := vk) (j := k) h
           have hxx := fun h => b5 _ (nth_mem76 (l := vi) (i := k) h)
           have w3 : k < vi.length → IntKind.i64.wrap ((k : Int) + 1) = ((k + 1 : Nat) : Int) := fun h => by rw [wrap64_id (by omega)]; omega
           have hln : (vi.take k).length ≤ 30 := by rw [List.length_take]; omega
           rcases hg : nth T76 vi k with ⟨xa, xs⟩
           rw [hg] at hst hxx
           change Int at xa; change List UInt8 at xs
           generalize hY : itemsL vk (vi.take k) = Y at *
           simp (maxSteps := 8000000) [hg, hItem, maxB]
           repeat' (first | with_reducible refine And.intro ?_ ?_ | with_reducible intro _ | (show ¬ _; intro _))
           all_goals first
             | omega
             | (show (_ : Bool) = true; kernel_rfl)
             | (have := (hxx (by assumption)).2; simp only at this; omega)
             | (have e3 := hst (by assumption)
                first
                  | exact ⟨k + 1, by omega, by omega, [0, 4, 2], by simp [hC], by decide, ⟨rfl, ⟨rfl, by rw [e3]; simp; omega⟩, rfl, w3 (by assumption)⟩, by rw [e3]; simp [leH, leO, leT, leA, List.append_assoc]⟩
                  | exact ⟨k + 1, by omega, by omega, [0, 3, 2], by simp [hC], by decide, ⟨rfl, ⟨rfl, by rw [e3]; simp; omega⟩, rfl, w3 (by assumption)⟩, by rw [e3]; simp [leH, leO, leT, leA, List.append_assoc]⟩)
             | (have e4 : Y = itemsL vk vi := by rw [← hY, List.take_of_length_le (by omega)]
                subst e4
                exact ⟨i + 1, by omega, by omega, [0, 1], by simp [hC], by decide, ⟨rfl, ⟨rfl, by rw [e]; simp; try omega⟩, w1 (by assumption)⟩, by rw [e]; simp [leH, leO, leT, leA, List.append_assoc]⟩)
             | trace_state)
        | (have e : i = r.length := by omega
           rw [← hW, e])
        | trace_state
  refine ACode_ok (τ := tau) hΓ mixed _ _ _ ?_
  simp [maxB]
  simp [↓retQ_ret, ↓retQ_normal, wWr, wr_yes hok]
end Go.Proofs.Ythojapklndjidaa
