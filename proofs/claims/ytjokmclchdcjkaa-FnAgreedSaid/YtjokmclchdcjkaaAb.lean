/- Versions of interfaces: Agree of the program and of the reference. -/
import Derived.Test.YtjokmclchdcjkaaAa
namespace Go.Proofs.Ytjokmclchdcjkaa
open Go Go.RowKit
set_option linter.all false
set_option maxRecDepth 100000
set_option maxHeartbeats 8000000
/-- The version that two agree on. -/
def agF (a b : T42.D) : List T42.D := if a.1 = b.1 ∧ a.2.1 ≤ min a.2.2 b.2.2 ∧ b.2.1 ≤ min a.2.2 b.2.2 then [(a.1, min a.2.2 b.2.2, min a.2.2 b.2.2)] else []
def agR (a : T42.D) (s : List T42.D) : List T42.D := s.flatMap (agF a)
def agL (c s : List T42.D) : List T42.D := c.flatMap fun a => agR a s
def agB (c s : List T42.D) : Bool := apOk c && apOk s
def agree (c s : List T42.D) : List T42.D := if agB c s = true then agL c s else []
theorem agF_len (a b : T42.D) : (agF a b).length ≤ 1 := by unfold agF; split <;> simp
theorem agR_len (a : T42.D) (s : List T42.D) : (agR a s).length ≤ s.length := by
  unfold agR
  induction s with
  | nil => simp
  | cons b s ih => have := agF_len a b; simp only [List.flatMap_cons, List.length_append, List.length_cons]; omega
theorem agL_len (c s : List T42.D) : (agL c s).length ≤ c.length * s.length := by
  unfold agL
  induction c with
  | nil => simp
  | cons a c ih => have := agR_len a s; simp only [List.flatMap_cons, List.length_append, List.length_cons, Nat.succ_mul]; omega
theorem agR_take {a : T42.D} {s : List T42.D} {j : Nat} (h : j < s.length) : agR a (s.take (j + 1)) = agR a (s.take j) ++ agF a (nth T42 s j) := by
  rw [take_nth (T := T42) h]; simp [agR]
theorem agL_take {c s : List T42.D} {i : Nat} (h : i < c.length) : agL (c.take (i + 1)) s = agL (c.take i) s ++ agR (nth T42 c i) s := by
  rw [take_nth (T := T42) h]; simp [agL]
theorem apOk_len {l : List T42.D} (h : apOk l = true) : l.length ≤ 40 := by simp [apOk] at h; exact h.1
def s16 : Spec [(false, .sl T42), (false, .sl T42)] := ⟨fun _ => True, fun x n => .tup [.osl n (agree x.1 x.2.1).length, .bool (agB x.1 x.2.1)], fun x => [.arr T42 42 (agree x.1 x.2.1)]⟩
theorem agree_impl : FSpecOk Try.prog 16 s16 := by
  intro x n hp
  obtain ⟨c, s, u⟩ := x; change List T42.D at c s
  refine FnOk_intro [.one (.own T42 42), .one .w] Try.func16 rfl ?_
  intro hw C hC
  have hΓ := CtrOk.add apisOk_ok rfl (noC_ok : CtrsOk Try.prog noC)
  refine ACode_ok (τ := tau) hΓ mixed _ _ _ ?_
  simp [Try.f16, s16, s40]
  refine ⟨fun hb => ?_, fun h1 h2 => ?_⟩
  · have e : agB c s = false := by unfold agB; rcases hb with e | e <;> simp_all
    simp [↓retQ_ret, ↓retQ_normal, agree, e]
  have e : agB c s = true := by unfold agB; simp [h1, h2]
  have l1 := apOk_len h1
  have l2 := apOk_len h2
  intro hl
  refine AWp_nil 6 T42 42 (by simp) ?_
  simp
  refine AWp_loop_ind hΓ mixed tau (fun i : Nat => ⟨[.sl T42 c, .sl T42 s, .any, .any, .nilsl, .bool false, .osl 0 (agL (c.take i) s).length, .any, .any, .any, .any, .any, .any, .any, .any, .any, .any, .any, .any, .any, .sl T42 c, .int .i64 c.length, .int .i64 i] ++ List.replicate 39 .any, [.arr T42 42 (agL (c.take i) s)]⟩) (fun i => c.length - i) (fun i => i ≤ c.length) 0 [0] ?_ ?_ ?_
  · simp [hC, agL]
  · simp
  · intro i hi
    by_cases h : i < c.length
    · rcases hf : nth T42 c i with ⟨a1, a2, a3⟩
      simp [h, hf]
      intro hl2
      refine AWp_loop_ind hΓ mixed tau (fun j : Nat => ⟨[.sl T42 c, .sl T42 s, .any, .any, .nilsl, .bool false, .osl 0 (agL (c.take i) s ++ agR (a1, a2, a3) (s.take j)).length, .any, .ptr 1 0, .any, .any, .any, .any, .any, .any, .any, .any, .any, .any, .any, .sl T42 c, .int .i64 c.length, .int .i64 i, .any, .any, .any, .sl T42 s, .int .i64 s.length, .int .i64 j] ++ List.replicate 33 .any, [.arr T42 42 (agL (c.take i) s ++ agR (a1, a2, a3) (s.take j)), .cells 42 [.int .i64 a1, .int .i64 a2, .int .i64 a3]]⟩) (fun j => s.length - j) (fun j => j ≤ s.length) 0 [0, 1] ?_ ?_ ?_
      · simp [hC, agR]
      · simp
      · intro j hj
        by_cases h' : j < s.length
        · rcases hf' : nth T42 s j with ⟨b1, b2, b3⟩
          simp [h', hf']
          change Int at a1 a2 a3 b1 b2 b3
          have k1 := agL_len (c.take i) s
          have k2 := agR_len (a1, a2, a3) (s.take j)
          have k3 : (c.take i).length * s.length ≤ 40 * 40 := Nat.mul_le_mul (by simp; omega) l2
          have k4 : (s.take j).length ≤ 40 := by simp; omega
          have et : List.take ((agL (c.take i) s).length + (agR (a1, a2, a3) (s.take j)).length) (agL (c.take i) s ++ agR (a1, a2, a3) (s.take j)) = agL (c.take i) s ++ agR (a1, a2, a3) (s.take j) := List.take_of_length_le (by simp)
          have st := agR_take (a := (a1, a2, a3)) h'
          rw [hf'] at st
          refine ⟨fun q1 q2 => ⟨⟨by omega, by omega⟩, j + 1, by omega, by omega, [4, 1], by simp [hC], by simp, ?_, ?_⟩, fun q => ⟨j + 1, by omega, by omega, [0, 1], by simp [hC], by simp, ?_, ?_⟩⟩
          · have eF : agF (a1, a2, a3) (b1, b2, b3) = [(a1, min a3 b3, min a3 b3)] := by unfold agF; rw [if_pos ⟨q1, by show a2 ≤ min a3 b3; omega, by show b2 ≤ min a3 b3; omega⟩]
            rw [eF] at st
            simp [st, wrap64_id (show -9223372036854775808 ≤ (j : Int) + 1 ∧ (j : Int) + 1 ≤ 9223372036854775807 by omega)]
            omega
          · have eF : agF (a1, a2, a3) (b1, b2, b3) = [(a1, min a3 b3, min a3 b3)] := by unfold agF; rw [if_pos ⟨q1, by show a2 ≤ min a3 b3; omega, by show b2 ≤ min a3 b3; omega⟩]
            rw [eF] at st
            simp [st, et]
          · have eF : agF (a1, a2, a3) (b1, b2, b3) = [] := by
              unfold agF; rw [if_neg]
              rintro ⟨q1, q2, q3⟩
              have q := q q1
              have q2 : a2 ≤ min a3 b3 := q2
              have q3 : b2 ≤ min a3 b3 := q3
              omega
            rw [eF] at st
            simp [st, wrap64_id (show -9223372036854775808 ≤ (j : Int) + 1 ∧ (j : Int) + 1 ≤ 9223372036854775807 by omega)]
          · have eF : agF (a1, a2, a3) (b1, b2, b3) = [] := by
              unfold agF; rw [if_neg]
              rintro ⟨q1, q2, q3⟩
              have q := q q1
              have q2 : a2 ≤ min a3 b3 := q2
              have q3 : b2 ≤ min a3 b3 := q3
              omega
            rw [eF] at st
            simp [st]
        · have : j = s.length := by omega
          subst this
          simp
          have st := agL_take (s := s) h
          rw [hf] at st
          refine ⟨i + 1, by omega, by omega, [0], by simp [hC], by simp, ?_, ?_⟩
          · simp [st, wrap64_id (show -9223372036854775808 ≤ (i : Int) + 1 ∧ (i : Int) + 1 ≤ 9223372036854775807 by omega)]
          · simp [st]
    · have : i = c.length := by omega
      subst this
      simp
      simp [↓retQ_ret, ↓retQ_normal, agree, e]
end Go.Proofs.Ytjokmclchdcjkaa
