/- The bucket: its functions' contracts, and the law that both charge alike. -/
import Derived.Test.YtjokmclchdcjkaaTy
namespace Go.Proofs.Ytjokmclchdcjkaa
open Go Go.RowKit
attribute [local simp ↓] retQ_ret retQ_normal
set_option linter.all false
def inB (n a b : Int) : Bool := decide (a ≤ n) && decide (n ≤ b)
def s34 : Spec [(false, .int .i64), (false, .int .i64), (false, .int .i64)] := ⟨fun _ => True, fun x _ => .bool (inB x.1 x.2.1 x.2.2.1), fun _ => []⟩
set_option maxRecDepth 100000 in
theorem within_ok : FSpecOk Try.prog 34 s34 := by
  intro x n hp
  obtain ⟨a, b, c, u⟩ := x
  refine FnOk_intro [.one .w] Try.func34 rfl ?_
  intro hw C hC
  refine ACode_ok (τ := tau) noC_ok mixed _ _ _ ?_
  simp [Try.f34, s34, inB]
set_option maxRecDepth 100000 in
theorem l1In_ok : FSpecOk Try.prog 32 s34 := by
  intro x n hp
  obtain ⟨a, b, c, u⟩ := x
  refine FnOk_intro [.one .w] Try.func32 rfl ?_
  intro hw C hC
  refine ACode_ok (τ := tau) noC_ok mixed _ _ _ ?_
  simp [Try.f32, s34, inB]
def s35 : Spec [(false, .int .i64)] := ⟨fun _ => True, fun x _ => .bool (inB x.1 0 1000000000000), fun _ => []⟩
set_option maxRecDepth 100000 in
theorem timeOk_ok : FSpecOk Try.prog 35 s35 := by
  intro x n hp
  obtain ⟨a, u⟩ := x
  refine FnOk_intro [.one .w] Try.func35 rfl ?_
  intro hw C hC
  refine ACode_ok (τ := tau) noC_ok mixed _ _ _ ?_
  simp [Try.f35, s35, inB]
def s33 : Spec [(false, .int .i64), (false, .int .i64)] := ⟨fun _ => True, fun x _ => .int .i64 (min x.1 x.2.1), fun _ => []⟩
set_option maxRecDepth 100000 in
theorem l5Least_ok : FSpecOk Try.prog 33 s33 := by
  intro x n hp
  obtain ⟨a, b, u⟩ := x
  refine FnOk_intro [.one .w] Try.func33 rfl ?_
  intro hw C hC
  refine ACode_ok (τ := tau) noC_ok mixed _ _ _ ?_
  simp [Try.f33, s33]
  omega
def chargeOk (b : T24.D) (now units : Int) : Bool :=
  inB b.1 1 1000000 && inB b.2.1 0 1000000 && inB b.2.2.1 (-1000000000000) b.2.1 && inB b.2.2.2 0 1000000000000 && inB now b.2.2.2 1000000000000 && inB units 0 1000000
def chargeLevel (b : T24.D) (now units : Int) : Int := min (b.2.2.1 + (now - b.2.2.2) * b.1) b.2.1 - units
def charge (b : T24.D) (now units : Int) : T24.D × Int × Bool :=
  if chargeOk b now units then
    let l := chargeLevel b now units
    if l < -1000000000000 then ((0, 0, 0, 0), 0, false)
    else ((b.1, b.2.1, l, now), if l < 0 then (-l + b.1 - 1).tdiv b.1 else 0, true)
  else ((0, 0, 0, 0), 0, false)
def s8 : Spec [(true, T24), (false, .int .i64), (false, .int .i64)] := ⟨fun _ => True, fun x _ => .tup [.agg (flat T24 (charge x.1 x.2.1 x.2.2.1).1), .int .i64 (charge x.1 x.2.1 x.2.2.1).2.1, .bool (charge x.1 x.2.1 x.2.2.1).2.2], fun _ => []⟩
def Γ1 : Ctrs := addC 32 (ctr1 s34) (addC 34 (ctr1 s34) (addC 35 (ctr1 s35) (addC 33 (ctr1 s33) noC)))
theorem Γ1_ok : CtrsOk Try.prog Γ1 := CtrOk.add l1In_ok rfl (CtrOk.add within_ok rfl (CtrOk.add timeOk_ok rfl (CtrOk.add l5Least_ok rfl noC_ok)))
theorem mul_bound {x a X A : Int} (hx : 0 ≤ x) (hX : x ≤ X) (ha : 0 ≤ a) (hA : a ≤ A) : 0 ≤ x * a ∧ x * a ≤ X * A :=
  ⟨Int.mul_nonneg hx ha, Int.mul_le_mul hX hA ha (Int.le_trans hx hX)⟩
theorem tdiv_bound {x a : Int} (hx : 0 ≤ x) (ha : 1 ≤ a) : 0 ≤ x.tdiv a ∧ x.tdiv a ≤ x := by
  rw [Int.tdiv_eq_ediv_of_nonneg hx]
  exact ⟨Int.ediv_nonneg hx (by omega), Int.ediv_le_self _ hx⟩
set_option maxHeartbeats 2000000
set_option maxRecDepth 100000 in
theorem charge_spec : FSpecOk Try.prog 8 s8 := by
  intro x n hp
  obtain ⟨⟨a, b, c, d⟩, now, units, u⟩ := x; change Int at a b c d now units
  refine FnOk_intro [.agg [.w, .w, .w, .w], .one .w, .one .w] Try.func8 rfl ?_
  intro hw C hC
  refine ACode_ok (τ := tau) Γ1_ok mixed _ _ _ ?_
  simp at hw
  simp [Try.f8, s8, Γ1, s34, s35, s33]
  clear hp hw hC C u
  by_cases hok : chargeOk (a, b, c, d) now units = true
  · have hb := hok
    simp [chargeOk, inB] at hb
    obtain ⟨p0, p1⟩ := mul_bound (x := now - d) (a := a) (X := 1000000000000) (A := 1000000) (by omega) (by omega) (by omega) (by omega)
    have w1 : IntKind.wrap .i64 (now - d) = now - d := wrap64_id (by omega)
    have w2 : IntKind.wrap .i64 ((now - d) * a) = (now - d) * a := wrap64_id (by omega)
    have w3 : IntKind.wrap .i64 (c + (now - d) * a) = c + (now - d) * a := wrap64_id (by omega)
    have w4 : IntKind.wrap .i64 (min (c + (now - d) * a) b - units) = min (c + (now - d) * a) b - units := wrap64_id (by omega)
    have hl : chargeLevel (a, b, c, d) now units = min (c + (now - d) * a) b - units := rfl
    simp only [w1, w2, w3, w4]
    simp only [charge, hok, if_true, hl]
    generalize hL : min (c + (now - d) * a) b - units = l
    have hlb : l ≤ 1000000 := by omega
    refine ⟨fun h => ?_, fun _ _ _ _ _ _ => ⟨fun h => ?_, fun h => ⟨fun h' => ?_, fun h' => ?_⟩⟩⟩
    · simp [inB] at h; omega
    · simp [h]
    · have v1 : IntKind.wrap .i64 (-l) = -l := wrap64_id (by omega)
      have v2 : IntKind.wrap .i64 (-l + a) = -l + a := wrap64_id (by omega)
      have v3 : IntKind.wrap .i64 (-l + a - 1) = -l + a - 1 := wrap64_id (by omega)
      obtain ⟨t0, t1⟩ := tdiv_bound (x := -l + a - 1) (a := a) (by omega) (by omega)
      have v4 : IntKind.wrap .i64 ((-l + a - 1).tdiv a) = (-l + a - 1).tdiv a := wrap64_id (by omega)
      have hn : ¬ l < -1000000000000 := by omega
      simp only [v1, v2, v3, v4, if_neg hn, if_pos h']
      refine ⟨by omega, by simp, by simp⟩
    · have hn : ¬ l < -1000000000000 := by omega
      have hn' : ¬ l < 0 := by omega
      simp [if_neg hn, if_neg hn']
  · have hc : charge (a, b, c, d) now units = ((0, 0, 0, 0), 0, false) := by simp [charge, hok]
    rw [hc]
    simp [chargeOk] at hok
    simp only [true_and, and_true, and_self, implies_true]
    intro h1 h2 h3 h4 h5 h6
    simp_all

set_option maxHeartbeats 2000000
set_option maxRecDepth 100000 in
theorem charge_impl : FSpecOk Try.prog 10 s8 := by
  intro x n hp
  obtain ⟨⟨a, b, c, d⟩, now, units, u⟩ := x; change Int at a b c d now units
  refine FnOk_intro [.agg [.w, .w, .w, .w], .one .w, .one .w] Try.func10 rfl ?_
  intro hw C hC
  refine ACode_ok (τ := tau) Γ1_ok mixed _ _ _ ?_
  simp at hw
  simp [Try.f10, s8, Γ1, s34, s35, s33]
  clear hp hw hC C u
  by_cases hok : chargeOk (a, b, c, d) now units = true
  · have hb := hok
    simp [chargeOk, inB] at hb
    obtain ⟨p0, p1⟩ := mul_bound (x := now - d) (a := a) (X := 1000000000000) (A := 1000000) (by omega) (by omega) (by omega) (by omega)
    have w0 : a * (now - d) = (now - d) * a := Int.mul_comm _ _
    have w1 : IntKind.wrap .i64 (now - d) = now - d := wrap64_id (by omega)
    have w2 : IntKind.wrap .i64 ((now - d) * a) = (now - d) * a := wrap64_id (by omega)
    have w3 : IntKind.wrap .i64 (c + (now - d) * a) = c + (now - d) * a := wrap64_id (by omega)
    have w4 : IntKind.wrap .i64 (min (c + (now - d) * a) b - units) = min (c + (now - d) * a) b - units := wrap64_id (by omega)
    have w5 : min b (c + (now - d) * a) = min (c + (now - d) * a) b := by omega
    have hl : chargeLevel (a, b, c, d) now units = min (c + (now - d) * a) b - units := rfl
    simp only [w1, w0, w2, w3, w5, w4]
    simp only [charge, hok, if_true, hl]
    generalize hL : min (c + (now - d) * a) b - units = l
    have hlb : l ≤ 1000000 := by omega
    have hnd : ¬ now < d := by omega
    refine ⟨fun h => ?_, fun _ _ _ _ _ _ _ => ⟨fun h => ?_, fun h => ⟨fun h' => ?_, fun h' => ?_⟩⟩⟩
    · simp [inB] at h; omega
    · simp [h]
    · have v1 : IntKind.wrap .i64 (-l) = -l := wrap64_id (by omega)
      have v2 : IntKind.wrap .i64 (-l + a) = -l + a := wrap64_id (by omega)
      have v3 : IntKind.wrap .i64 (-l + a - 1) = -l + a - 1 := wrap64_id (by omega)
      obtain ⟨t0, t1⟩ := tdiv_bound (x := -l + a - 1) (a := a) (by omega) (by omega)
      have v4 : IntKind.wrap .i64 ((-l + a - 1).tdiv a) = (-l + a - 1).tdiv a := wrap64_id (by omega)
      have hn : ¬ l < -1000000000000 := by omega
      simp only [v1, v2, v3, v4, if_neg hn, if_pos h']
      refine ⟨by omega, by simp, by simp⟩
    · have hn : ¬ l < -1000000000000 := by omega
      have hn' : ¬ l < 0 := by omega
      simp [if_neg hn, if_neg hn']
  · have hc : charge (a, b, c, d) now units = ((0, 0, 0, 0), 0, false) := by simp [charge, hok]
    rw [hc]
    simp [chargeOk, inB] at hok
    simp only [true_and, and_true, and_self, implies_true]
    simp only [inB, Bool.and_eq_true, decide_eq_true_eq]
    intro h1 h2 h3 h4 h5 h6 h7
    omega
end Go.Proofs.Ytjokmclchdcjkaa
