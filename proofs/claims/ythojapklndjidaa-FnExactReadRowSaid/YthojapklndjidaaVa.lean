/- Values: contracts of what tells whether an item, a value is in order. -/
import Derived.Test.YthojapklndjidaaFa
namespace Go.Proofs.Ythojapklndjidaa
open Go Go.RowKit
set_option linter.all false
def inB (n a b : Int) : Bool := decide (a ≤ n) && decide (n ≤ b)
def wB : Spec [(false, .int .i64), (false, .int .i64), (false, .int .i64)] := ⟨fun _ => True, fun x _ => .bool (inB x.1 x.2.1 x.2.2.1), fun _ => []⟩
set_option maxRecDepth 100000 in
theorem f53_ok : FSpecOk Try.prog 53 wB := by
  intro x n hp
  obtain ⟨a, b, c, u⟩ := x
  refine FnOk_intro [.one .w] Try.func53 rfl ?_
  intro hw C hC
  refine ACode_ok (τ := tau) noC_ok mixed _ _ _ ?_
  simp [Try.f53, wB]
  simp [↓retQ_ret, inB]
set_option maxRecDepth 100000 in
theorem f30_ok : FSpecOk Try.prog 30 wB := by
  intro x n hp
  obtain ⟨a, b, c, u⟩ := x
  refine FnOk_intro [.one .w] Try.func30 rfl ?_
  intro hw C hC
  refine ACode_ok (τ := tau) noC_ok mixed _ _ _ ?_
  simp [Try.f30, wB]
  simp [↓retQ_ret, inB]
def w113 : Spec [(false, .str)] := ⟨fun _ => True, fun x _ => .bool (decide (x.1.length ≤ 100)), fun _ => []⟩
set_option maxRecDepth 100000 in
theorem f112_ok : FSpecOk Try.prog 112 w113 := by
  intro x n hp
  obtain ⟨a, u⟩ := x; change List UInt8 at a
  refine FnOk_intro [.one .w] Try.func112 rfl ?_
  intro hw C hC
  refine ACode_ok (τ := tau) noC_ok mixed _ _ _ ?_
  simp [Try.f112, w113]
  simp [↓retQ_ret]
  intro h; omega
def chOk (c : UInt8) : Bool := decide (32 ≤ c.toNat) && decide (c.toNat ≤ 126)
def itemB (kind : Int) (x : T76.D) : Bool :=
  if kind = 4 then decide (x.1 = 0) && decide (x.2.length ≤ 100) && x.2.all chOk
  else decide (x.2 = []) && (if kind = 1 then inB x.1 0 1 else if kind = 2 then inB x.1 (-32768) 32767 else inB x.1 (-1000000000000000) 1000000000000000)
def w71 : Spec [(false, .int .i64), (true, T76)] := ⟨fun _ => True, fun x _ => .bool (itemB x.1 x.2.1), fun _ => []⟩
set_option maxHeartbeats 4000000 in
set_option maxRecDepth 100000 in
theorem f88_ok : FSpecOk Try.prog 88 w71 := by
  intro x n hp
  obtain ⟨kind, ⟨num, s⟩, u⟩ := x; change Int at kind num; change List UInt8 at s
  refine FnOk_intro [.one .w] Try.func88 rfl ?_
  intro hw C hC
  have hΓ := CtrOk.add f53_ok rfl (CtrOk.add f112_ok rfl (noC_ok : CtrsOk Try.prog noC))
  refine ACode_ok (τ := tau) hΓ mixed _ _ _ ?_
  simp [Try.f88, w71, wB, w113]
  refine ⟨fun h4 => ⟨fun hs => ?_, fun hs => ⟨fun h1 => ?_, fun h1 => ⟨fun h2 => ?_, fun h2 => ?_⟩⟩⟩, fun h4 => ⟨fun hb => ?_, fun h0 hl => ?_⟩⟩
  · simp [↓retQ_ret, itemB, h4, hs]
  · simp [↓retQ_ret, itemB, h4, hs, h1]
  · simp [↓retQ_ret, itemB, h4, hs, h1, h2]
  · simp [↓retQ_ret, itemB, h4, hs, h1, h2]
  · simp [↓retQ_ret, itemB, h4]
    intro e1 e2
    exfalso; rcases hb with hb | hb
    · exact hb e1
    · exact absurd e2 (by omega)
  refine AWp_loop_ind hΓ mixed tau (fun i : Nat => ⟨[.int .i64 kind, .any, .any, .ptr 0 0, .bool false, .int .i64 i] ++ List.replicate 47 .any, [.cells 76 [.int .i64 num, .str s]]⟩) (fun i => s.length - i) (fun i => i ≤ s.length ∧ ∀ j, j < i → chOk (nth Ty.byte s j) = true) 0 [0] ?_ ?_ ?_
  · simp [hC]
  · simp
  · rintro i ⟨hi, ht⟩
    simp
    intro hmax
    refine ⟨fun hlt => ⟨hlt, fun h => ⟨h, hlt⟩, fun hbad => ?_, fun g1 g2 => ?_⟩, fun hge => ?_⟩
    · have hb : chOk (nth Ty.byte s i) = false := by
        unfold chOk; simp; omega
      simp [↓retQ_ret, itemB, h4]
      intro _ _
      have := all_nth_no (T := Ty.byte) hlt hb
      simpa using this
    · have hb : chOk (nth Ty.byte s i) = true := by
        unfold chOk; simp; omega
      refine ⟨i + 1, ⟨by omega, fun j hj => ?_⟩, by omega, [0], by simp [hC], by simp, ⟨by simp, wrap64_id (by omega)⟩, by simp⟩
      rcases Nat.lt_succ_iff_lt_or_eq.1 hj with h | h
      · exact ht j h
      · rw [h]; exact hb
    · have hall : s.all chOk = true := (all_nth (T := Ty.byte)).2 fun j hj => ht j (by omega)
      simp only [↓retQ_ret, itemB, h4, h0, hall]
      simp [hl]

def item3B (kind : Int) (x : T76.D) : Bool := inB kind 1 4 && itemB kind x
def w66 : Spec [(false, .int .i64), (true, T76)] := ⟨fun _ => True, fun x _ => .bool (item3B x.1 x.2.1), fun _ => []⟩
set_option maxHeartbeats 4000000 in
set_option maxRecDepth 100000 in
theorem f85_ok : FSpecOk Try.prog 85 w66 := by
  intro x n hp
  obtain ⟨kind, ⟨num, s⟩, u⟩ := x; change Int at kind num; change List UInt8 at s
  refine FnOk_intro [.one .w] Try.func85 rfl ?_
  intro hw C hC
  have hΓ := CtrOk.add f30_ok rfl (noC_ok : CtrsOk Try.prog noC)
  refine ACode_ok (τ := tau) hΓ mixed _ _ _ ?_
  simp [Try.f85, w66, wB]
  refine ⟨fun h1 => ?_, fun h1 => ⟨fun h2 => ?_, fun h2 => ⟨fun h3 => ?_, fun h3 => ⟨fun h4 => ?_, fun h4 => ?_⟩⟩⟩⟩
  · subst h1; simp [↓retQ_ret, item3B, itemB]; simp [inB]; exact Bool.and_comm _ _
  · subst h2; simp [↓retQ_ret, item3B, itemB]; simp [inB]; exact Bool.and_comm _ _
  · subst h3; simp [↓retQ_ret, item3B, itemB]; simp [inB]; exact Bool.and_comm _ _
  · subst h4
    refine AWp_loop_ind hΓ mixed tau (fun i : Nat => ⟨[.any, .any, .any, .ptr 0 0, .bool false, .int .i64 i] ++ List.replicate 61 .any, [.cells 76 [.int .i64 num, .str s]]⟩) (fun i => s.length - i) (fun i => i ≤ s.length ∧ ∀ j, j < i → chOk (nth Ty.byte s j) = true) 0 [0] ?_ ?_ ?_
    · simp [hC]
    · simp
    · rintro i ⟨hi, ht⟩
      simp
      intro hmax
      refine ⟨fun hlt => ⟨hlt, fun h => ⟨h, hlt⟩, fun hbad => ?_, fun g1 g2 => ?_⟩, fun hge _ => ?_⟩
      · have hb : chOk (nth Ty.byte s i) = false := by
          unfold chOk; simp; omega
        have hall := all_nth_no (T := Ty.byte) hlt hb
        simp only [↓retQ_ret, item3B, itemB, hall]
        simp
      · have hb : chOk (nth Ty.byte s i) = true := by
          unfold chOk; simp; omega
        refine ⟨i + 1, ⟨by omega, fun j hj => ?_⟩, by omega, [0], by simp [hC], by simp, ⟨by simp, wrap64_id (by omega)⟩, by simp⟩
        rcases Nat.lt_succ_iff_lt_or_eq.1 hj with h | h
        · exact ht j h
        · rw [h]; exact hb
      · have hall : s.all chOk = true := (all_nth (T := Ty.byte)).2 fun j hj => ht j (by omega)
        simp only [↓retQ_ret, item3B, itemB, hall]
        simp [inB]
        have e : decide ((s.length : Int) ≤ 100) = decide (s.length ≤ 100) := by rw [decide_eq_decide]; omega
        rw [e]
  · have : inB kind 1 4 = false := by unfold inB; simp; omega
    simp [↓retQ_ret, item3B, this]
def zeroB (v : T70.D) : Bool := decide (v.1 = 0) && decide (v.2.1 = 0) && decide (v.2.2.1 = []) && !v.2.2.2.1 && decide (v.2.2.2.2 = [])
def w69 : Spec [(true, T70)] := ⟨fun _ => True, fun x _ => .bool (zeroB x.1), fun _ => []⟩
set_option maxHeartbeats 4000000 in
set_option maxRecDepth 100000 in
theorem f111_ok : FSpecOk Try.prog 111 w69 := by
  intro x n hp
  obtain ⟨⟨kind, num, text, list, items⟩, u⟩ := x
  refine FnOk_intro [.one .w] Try.func111 rfl ?_
  intro hw C hC
  refine ACode_ok (τ := tau) (noC_ok : CtrsOk Try.prog noC) mixed _ _ _ ?_
  simp [Try.f111, w69]
  try intro _
  simp [↓retQ_ret, zeroB]
end Go.Proofs.Ythojapklndjidaa
