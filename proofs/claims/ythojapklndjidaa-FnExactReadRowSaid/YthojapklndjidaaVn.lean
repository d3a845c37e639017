/- Names: the contracts of NameOk. -/
import Derived.Test.YthojapklndjidaaVa
namespace Go.Proofs.Ythojapklndjidaa
open Go Go.RowKit
set_option linter.all false
def chL (c : UInt8) : Bool := (decide (97 ≤ (c.toNat : Int)) && decide ((c.toNat : Int) ≤ 122)) || (decide (65 ≤ (c.toNat : Int)) && decide ((c.toNat : Int) ≤ 90))
def chD (c : UInt8) : Bool := decide (48 ≤ (c.toNat : Int)) && decide ((c.toNat : Int) ≤ 57)
def chN (c : UInt8) : Bool := chL c || chD c || decide ((c.toNat : Int) = 95)
def nameB (s : List UInt8) : Bool := decide (1 ≤ (s.length : Int)) && decide ((s.length : Int) ≤ 20) && chL (nth Ty.byte s 0) && s.all chN
def wL : Spec [(false, .byte)] := ⟨fun _ => True, fun x _ => .bool (chL x.1), fun _ => []⟩
def wD : Spec [(false, .byte)] := ⟨fun _ => True, fun x _ => .bool (chD x.1), fun _ => []⟩
def wN : Spec [(false, .str)] := ⟨fun _ => True, fun x _ => .bool (nameB x.1), fun _ => []⟩
set_option maxRecDepth 100000 in
theorem f98_ok : FSpecOk Try.prog 98 wL := by
  intro x n hp
  obtain ⟨c, u⟩ := x
  refine FnOk_intro [.one .w] Try.func98 rfl ?_
  intro hw C hC
  refine ACode_ok (τ := tau) (noC_ok : CtrsOk Try.prog noC) mixed _ _ _ ?_
  simp [Try.f98, wL]
  simp [↓retQ_ret, chL]
  constructor <;> omega
set_option maxRecDepth 100000 in
theorem f99_ok : FSpecOk Try.prog 99 wD := by
  intro x n hp
  obtain ⟨c, u⟩ := x
  refine FnOk_intro [.one .w] Try.func99 rfl ?_
  intro hw C hC
  refine ACode_ok (τ := tau) (noC_ok : CtrsOk Try.prog noC) mixed _ _ _ ?_
  simp [Try.f99, wD]
  simp [↓retQ_ret, chD]
set_option maxHeartbeats 4000000 in
set_option maxRecDepth 100000 in
theorem f66_ok : FSpecOk Try.prog 66 wN := by
  intro x n hp
  obtain ⟨s, u⟩ := x; change List UInt8 at s
  refine FnOk_intro [.one .w] Try.func66 rfl ?_
  intro hw C hC
  have hΓ := CtrOk.add f98_ok rfl (CtrOk.add f99_ok rfl (noC_ok : CtrsOk Try.prog noC))
  refine ACode_ok (τ := tau) hΓ mixed _ _ _ ?_
  simp [Try.f66, wN, wL, wD]
  intro hmax _
  refine ⟨fun h1 h2 => ⟨⟨h1, h2⟩, by omega⟩, fun h => ?_, fun h1 h2 h3 => ?_⟩
  · simp [↓retQ_ret, nameB]
    intro e1 e2 e3
    rcases h with h | h
    · omega
    · rw [e3] at h; cases h
  refine AWp_loop_ind hΓ mixed tau (fun i : Nat => ⟨[.str s, .any, .bool false, .int .i64 i] ++ List.replicate 38 .any, []⟩) (fun i => s.length - i) (fun i => i ≤ s.length ∧ ∀ j, j < i → chN (nth Ty.byte s j) = true) 0 [] ?_ ?_ ?_
  · simp [hC]
  · simp
  · rintro i ⟨hi, ht⟩
    simp [wL, wD]
    intro _
    refine ⟨fun hlt => ⟨hlt, fun h => ⟨h, hlt⟩, fun h h' => ⟨⟨h, h'⟩, hlt⟩, fun e1 e2 e3 => ?_, fun h => ?_⟩, fun hge => ?_⟩
    · have hb : chN (nth Ty.byte s i) = false := by simp [chN, e1, e2, e3]
      have hall := all_nth_no (T := Ty.byte) (p := chN) hlt hb
      simp only [↓retQ_ret, nameB, hall]
      simp
    · have hb : chN (nth Ty.byte s i) = true := by
        unfold chN
        cases e1 : chL (nth Ty.byte s i) with
        | true => rfl
        | false =>
          cases e2 : chD (nth Ty.byte s i) with
          | true => rfl
          | false => simp [h e1 e2]
      refine ⟨i + 1, ⟨by omega, fun j hj => ?_⟩, by omega, [], by simp [hC], by simp, wrap64_id (by omega), by simp⟩
      rcases Nat.lt_succ_iff_lt_or_eq.1 hj with h | h
      · exact ht j h
      · rw [h]; exact hb
    · have hall : s.all chN = true := (all_nth (T := Ty.byte)).2 fun j hj => ht j (by omega)
      simp only [↓retQ_ret, nameB, hall, h3]
      simp [h1, h2]
set_option maxHeartbeats 4000000 in
set_option maxRecDepth 100000 in
theorem f59_ok : FSpecOk Try.prog 59 wN := by
  intro x n hp
  obtain ⟨s, u⟩ := x; change List UInt8 at s
  refine FnOk_intro [.one .w] Try.func59 rfl ?_
  intro hw C hC
  refine ACode_ok (τ := tau) (noC_ok : CtrsOk Try.prog noC) mixed _ _ _ ?_
  simp [Try.f59, wN]
  intro hmax _
  refine ⟨fun h => ?_, fun h1 h2 => ?_⟩
  · simp [↓retQ_ret, nameB]
    intro e1 e2
    omega
  refine AWp_loop_ind (noC_ok : CtrsOk Try.prog noC) mixed tau (fun i : Nat => ⟨[.str s, .any, .bool false, .int .i64 i] ++ List.replicate 62 .any, []⟩) (fun i => s.length - i) (fun i => i ≤ s.length ∧ (0 < i → chL (nth Ty.byte s 0) = true) ∧ ∀ j, j < i → chN (nth Ty.byte s j) = true) 0 [] ?_ ?_ ?_
  · simp [hC]
  · simp
  · rintro i ⟨hi, h0, ht⟩
    simp
    intro _
    refine ⟨fun hlt => ?_, fun hge => ?_⟩
    · repeat' constructor
      all_goals try omega
      · intro e1 e2 e3
        by_cases hz : i = 0
        · subst hz
          have hb : chL (nth Ty.byte s 0) = false := by simp [chL]; omega
          simp only [↓retQ_ret, nameB, hb]
          simp
        · have hb : chN (nth Ty.byte s i) = false := by simp [chN, chL, chD]; omega
          have hall := all_nth_no (T := Ty.byte) (p := chN) hlt hb
          simp only [↓retQ_ret, nameB, hall]
          simp
      · intro h
        have hb : chN (nth Ty.byte s i) = true := by simp [chN, chL, chD]; omega
        have hb0 : 0 < i + 1 → chL (nth Ty.byte s 0) = true := fun _ => by
          by_cases hz : i = 0
          · subst hz; simp [chL]; omega
          · exact h0 (by omega)
        refine ⟨i + 1, ⟨by omega, hb0, fun j hj => ?_⟩, by omega, [], by simp [hC], by simp, wrap64_id (by omega), by simp⟩
        rcases Nat.lt_succ_iff_lt_or_eq.1 hj with h | h
        · exact ht j h
        · rw [h]; exact hb
    · have hall : s.all chN = true := (all_nth (T := Ty.byte)).2 fun j hj => ht j (by omega)
      simp only [↓retQ_ret, nameB, hall, h0 (by omega)]
      simp [h1, h2]
end Go.Proofs.Ythojapklndjidaa
