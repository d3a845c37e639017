/- The newest arrival: the contracts of LatestAt of the program and of the reference. -/
import Derived.Test.YtjokmclchdcjkaaFa
namespace Go.Proofs.Ytjokmclchdcjkaa
open Go Go.RowKit
set_option linter.all false
set_option maxRecDepth 100000
set_option maxHeartbeats 8000000
def s46 : Spec [(false, .sl (.int .i64))] := ⟨fun x => x.1.length ≤ 1048576, fun x n => .osl n x.1.length, fun x => [.arr (.int .i64) 3 x.1]⟩
theorem clone_ok : FSpecOk Try.prog 46 s46 := by
  intro x n hp
  obtain ⟨l, u⟩ := x; change List Int at l
  have hp : l.length ≤ 1048576 := hp
  refine FnOk_intro [.one (.own (.int .i64) 3)] Try.func46 rfl ?_
  intro hw C hC
  refine ACode_ok (τ := tau) noC_ok mixed _ _ _ ?_
  simp [Try.f46, s46]
  repeat' (with_reducible refine And.intro ?_ ?_)
  all_goals first
    | omega
    | (simp [↓retQ_ret, ↓retQ_normal]; done)
    | (intro h; subst h; simp [↓retQ_ret, ↓retQ_normal]; done)
/-- Whether the arrival at a place is taken, where 'b' is the place of the one taken ahead. -/
def ltOk (l : List T76.D) (key time b : Int) (i : Nat) : Prop :=
  0 < (nth T76 l i).2.1.length ∧ nth (.int .i64) (nth T76 l i).2.1 0 = key ∧ (nth T76 l i).1 ≤ time ∧ (b < 0 ∨ (nth T76 l b.toNat).1 ≤ (nth T76 l i).1)
noncomputable def ltB (l : List T76.D) (key time : Int) : Nat → Int
  | 0 => -1
  | i + 1 => @ite _ (ltOk l key time (ltB l key time i) i) (Classical.propDecidable _) (i : Int) (ltB l key time i)
theorem ltB_in (l : List T76.D) (key time : Int) : ∀ i : Nat, -1 ≤ ltB l key time i ∧ ltB l key time i < i
  | 0 => by simp [ltB]
  | i + 1 => by
    have := ltB_in l key time i
    unfold ltB
    split <;> omega
theorem ltB_yes {l : List T76.D} {key time : Int} {i : Nat} (h : ltOk l key time (ltB l key time i) i) : ltB l key time (i + 1) = i := by
  show @ite _ (ltOk l key time (ltB l key time i) i) (Classical.propDecidable _) (i : Int) (ltB l key time i) = _
  rw [if_pos h]
theorem ltB_no {l : List T76.D} {key time : Int} {i : Nat} (h : ¬ ltOk l key time (ltB l key time i) i) : ltB l key time (i + 1) = ltB l key time i := by
  show @ite _ (ltOk l key time (ltB l key time i) i) (Classical.propDecidable _) (i : Int) (ltB l key time i) = _
  rw [if_neg h]
noncomputable def ltG (l : List T76.D) (key time : Int) : Bool := !(decide (ltB l key time l.length < 0) || (nth T76 l (ltB l key time l.length).toNat).2.2)
noncomputable def ltR (l : List T76.D) (key time : Int) : List Int := if ltG l key time = true then (nth T76 l (ltB l key time l.length).toNat).2.1 else []
noncomputable def s26 : Spec [(false, .sl T76), (false, .int .i64), (false, .int .i64)] := ⟨fun x => Bnd (.sl T76) x.1, fun x n => .tup [.osl n (ltR x.1 x.2.1 x.2.2.1).length, .bool (ltG x.1 x.2.1 x.2.2.1)], fun x => [.arr (.int .i64) 3 (ltR x.1 x.2.1 x.2.2.1)]⟩
theorem latest_impl : FSpecOk Try.prog 26 s26 := by
  intro x n hp
  obtain ⟨l, key, time, u⟩ := x; change List T76.D at l; change Int at key time
  have hp : l.length ≤ 1048576 ∧ ∀ i, i < l.length → Bnd T76 (nth T76 l i) := hp
  refine FnOk_intro [.one (.own (.int .i64) 3), .one .w] Try.func26 rfl ?_
  intro hw C hC
  have hΓ := CtrOk.add clone_ok rfl (noC_ok : CtrsOk Try.prog noC)
  refine ACode_ok (τ := tau) hΓ mixed _ _ _ ?_
  simp [Try.f26, s26, s46]
  intro hl
  refine AWp_loop_ind hΓ mixed tau (fun i : Nat => ⟨[.sl T76 l, .int .i64 key, .int .i64 time, .any, .any, .any, .nilsl, .bool false, .int .i64 (ltB l key time i), .any, .any, .sl T76 l, .int .i64 l.length, .int .i64 i] ++ List.replicate 53 .any, []⟩) (fun i => l.length - i) (fun i => i ≤ l.length) 0 [] ?_ ?_ ?_
  · simp [hC, ltB]
  · simp
  · intro i hi
    have hb := ltB_in l key time i
    by_cases h : i < l.length
    · have hy := @ltB_yes l key time i
      have hn := @ltB_no l key time i
      unfold ltOk at hy hn
      rcases hf : nth T76 l i with ⟨a, b, c⟩
      rw [hf] at hy hn
      change Int at a; change List Int at b
      generalize hB : ltB l key time i = B at hb hy hn ⊢
      simp [h, hf, s46]
      refine ⟨by show Region.lexB .any _ = true; kernel_rfl, ?_⟩
      try simp
      intro hbl
      have wi := wrap64_id (show -9223372036854775808 ≤ (i : Int) + 1 ∧ (i : Int) + 1 ≤ 9223372036854775807 by omega)
      refine ⟨fun q1 q2 q3 q4 => ⟨⟨⟨⟨q1, q2⟩, q3⟩, q4⟩, q4, by omega⟩, fun q1 q2 q3 => ⟨⟨⟨q1, q2⟩, q3⟩, fun q4 => ⟨⟨⟨q1, q2⟩, q3⟩, q4⟩⟩, fun q1 q2 q3 q4 => ⟨i + 1, by omega, by omega, [], by simp [hC], by simp, ⟨(hy ⟨q1, q2, q3, q4⟩).symm, wi⟩, by simp⟩, fun q => ⟨i + 1, by omega, by omega, [], by simp [hC], by simp, ⟨(hn ?_).symm, wi⟩, by simp⟩⟩
      rintro ⟨q1, q2, q3, q4⟩
      have := q q1 q2 q3
      rcases q4 with q4 | q4
      · omega
      · exact absurd q4 (by have := this.2; exact Int.not_le.2 this)
    · have : i = l.length := by omega
      subst this
      simp [s46]
      refine ⟨fun q => ⟨q, hb.2⟩, fun q => ?_, fun q1 q2 => ⟨⟨q1, hb.2⟩, ?_, ?_⟩⟩
      · have e : ltG l key time = false := by
          unfold ltG
          rcases q with q | q
          · simp [q]
          · simp [q]
        simp [↓retQ_ret, ↓retQ_normal, ltR, e]
      · have := hp.2 (ltB l key time l.length).toNat (by omega)
        exact this.2.1.1
      · have e : ltG l key time = true := by
          unfold ltG
          simp [q2]; omega
        simp [↓retQ_ret, ↓retQ_normal, ltR, e]
theorem latest_spec : FSpecOk Try.prog 24 s26 := by
  intro x n hp
  obtain ⟨l, key, time, u⟩ := x; change List T76.D at l; change Int at key time
  have hp : l.length ≤ 1048576 ∧ ∀ i, i < l.length → Bnd T76 (nth T76 l i) := hp
  refine FnOk_intro [.one (.own (.int .i64) 3), .one .w] Try.func24 rfl ?_
  intro hw C hC
  have hΓ := (noC_ok : CtrsOk Try.prog noC)
  refine ACode_ok (τ := tau) hΓ mixed _ _ _ ?_
  simp [Try.f24, s26]
  refine AWp_loop_ind hΓ mixed tau (fun i : Nat => ⟨[.sl T76 l, .int .i64 key, .int .i64 time, .any, .any, .any, .nilsl, .bool false, .int .i64 (ltB l key time i), .int .i64 i] ++ List.replicate 61 .any, []⟩) (fun i => l.length - i) (fun i => i ≤ l.length) 0 [] ?_ ?_ ?_
  · simp [hC, ltB]
  · simp
  · intro i hi
    have hb := ltB_in l key time i
    by_cases h : i < l.length
    · have hy := @ltB_yes l key time i
      have hn := @ltB_no l key time i
      unfold ltOk at hy hn
      rcases hf : nth T76 l i with ⟨a, b, c⟩
      rw [hf] at hy hn
      change Int at a; change List Int at b
      generalize hB : ltB l key time i = B at hb hy hn ⊢
      simp [h, hf]
      intro hl
      refine ⟨by show Region.lexB .any _ = true; kernel_rfl, ?_⟩
      try simp
      intro hbl
      have wi := wrap64_id (show -9223372036854775808 ≤ (i : Int) + 1 ∧ (i : Int) + 1 ≤ 9223372036854775807 by omega)
      refine ⟨fun q1 q2 q3 q4 => ⟨⟨⟨⟨q1, q2⟩, q3⟩, q4⟩, q4, by omega⟩, fun q1 q2 q3 => ⟨⟨⟨q1, q2⟩, q3⟩, fun q4 => ⟨⟨⟨q1, q2⟩, q3⟩, q4⟩⟩, fun q1 q2 q3 q4 => ⟨i + 1, by omega, by omega, [], by simp [hC], by simp, ⟨(hy ⟨q1, q2, q3, q4⟩).symm, wi⟩, by simp⟩, fun q => ⟨i + 1, by omega, by omega, [], by simp [hC], by simp, ⟨(hn ?_).symm, wi⟩, by simp⟩⟩
      rintro ⟨q1, q2, q3, q4⟩
      have := q q1 q2 q3
      rcases q4 with q4 | q4
      · omega
      · exact absurd q4 (by have := this.2; exact Int.not_le.2 this)
    · have : i = l.length := by omega
      subst this
      simp
      intro hl
      refine ⟨fun q => ⟨q, hb.2⟩, fun q => ?_, fun q1 q2 => ⟨⟨q1, hb.2⟩, ?_⟩⟩
      · have e : ltG l key time = false := by
          unfold ltG
          rcases q with q | q
          · simp [q]
          · simp [q]
        simp [↓retQ_ret, ↓retQ_normal, ltR, e]
      · have hl2 := hp.2 (ltB l key time l.length).toNat (by omega)
        have hl3 : (nth T76 l (ltB l key time l.length).toNat).2.1.length ≤ 1048576 := hl2.2.1.1
        have e : ltG l key time = true := by
          unfold ltG
          simp [q2]; omega
        repeat' (with_reducible refine And.intro ?_ ?_)
        all_goals first
          | omega
          | (simp [↓retQ_ret, ↓retQ_normal, ltR, e]; done)
end Go.Proofs.Ytjokmclchdcjkaa
