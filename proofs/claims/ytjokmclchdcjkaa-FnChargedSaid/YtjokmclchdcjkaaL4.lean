/- The law FnCharged. -/
import Derived.Test.YtjokmclchdcjkaaEa
import Derived.Test.YtjokmclchdcjkaaEb
import Derived.Test.YtjokmclchdcjkaaEc
import Derived.Test.YtjokmclchdcjkaaCg
namespace Go.Proofs.Ytjokmclchdcjkaa
open Go Go.RowKit
set_option linter.all false
set_option maxRecDepth 100000
set_option maxHeartbeats 8000000
def wBig : Spec [(false, .sl .byte)] := ⟨fun _ => True, fun x _ => .bool (decide (1048576 < (x.1.length : Int))), fun _ => []⟩
theorem big_ok : FSpecOk Try.prog 12 wBig := by
  intro x n hp
  obtain ⟨code, u⟩ := x; change List UInt8 at code
  refine FnOk_intro [.one .w] Try.func12 rfl ?_
  intro hw C hC
  refine ACode_ok (τ := tau) noC_ok mixed _ _ _ ?_
  simp [Try.f12, wBig]
  intro _
  simp [↓retQ_ret, ↓retQ_normal]
theorem charge_kept {R B L0 t0 L t now used : Int} {i : Nat} (hi : i < 12) (k : Kept R B L0 t0 L t now used i) {d units : Int} (hd : 0 ≤ d ∧ d ≤ 4) (hu : 0 ≤ units ∧ units ≤ 2295) :
    ∃ L' wait : Int, charge (R, B, L, t) (now + d) units = ((R, B, L', now + d), wait, true) ∧ Kept R B L0 t0 L' (now + d) (now + d + wait) (used + units) (i + 1) ∧ now + d ≤ 600000000000 ∧ L' ≤ B ∧ 0 ≤ wait ∧ (0 < wait → L' < 0) ∧
      (0 ≤ L0 → used + units ≤ L0 + R * (now + d - t0) + units) ∧ IntKind.i64.wrap (now + d + wait) = now + d + wait ∧ IntKind.i64.wrap (used + units) = used + units ∧
      IntKind.i64.wrap (now + d - t0) = now + d - t0 ∧ IntKind.i64.wrap (R * (now + d - t0)) = R * (now + d - t0) ∧ IntKind.i64.wrap (L0 + R * (now + d - t0)) = L0 + R * (now + d - t0) ∧ IntKind.i64.wrap (L0 + R * (now + d - t0) + units) = L0 + R * (now + d - t0) + units := by
  obtain ⟨s1, s2, s3, s4, s5, s6, s7⟩ := kept_step hi k hd hu
  have hk := k
  obtain ⟨r, b, z, l, tt, u, m, w⟩ := k
  obtain ⟨r', b', z', l', tt', u', m', w'⟩ := s1
  have hm := mul_bound (x := now + d - t0) (a := R) (X := 600000000000) (A := 1000000) (by omega) (by omega) (by omega) (by omega)
  rw [Int.mul_comm] at hm
  refine ⟨_, _, ?_, ⟨r', b', z', l', tt', u', m', w'⟩, s2, s3, s4, s5, s7, wrap64_id (by omega), wrap64_id (by omega), wrap64_id (by omega), wrap64_id (by omega), wrap64_id (by omega), wrap64_id (by omega)⟩
  have ho : chargeOk (R, B, L, t) (now + d) units = true := by
    simp only [chargeOk, inB, Bool.and_eq_true, decide_eq_true_eq]; omega
  have hl : chargeLevel (R, B, L, t) (now + d) units = min (L + (now + d - t) * R) B - units := rfl
  simp only [charge, ho, if_true, hl]
  rw [if_neg (by omega)]
def law4 : Spec [(false, .sl .byte), (false, .sl .byte)] := ⟨fun _ => True, fun _ _ => .bool true, fun _ => []⟩
theorem law4_ok : FSpecOk Try.prog 4 law4 := by
  intro x n hp
  obtain ⟨code, more, u⟩ := x; change List UInt8 at code more
  refine FnOk_intro [.one .w] Try.func4 rfl ?_
  intro hw C hC
  have hΓ := CtrOk.add big_ok rfl (CtrOk.add draw_charge rfl (CtrOk.add charge_spec rfl (CtrOk.add charge_impl rfl (CtrOk.add at_ok rfl (noC_ok : CtrsOk Try.prog noC)))))
  refine ACode_ok (τ := tau) hΓ mixed _ _ _ ?_
  rcases hb : dBucket code with ⟨R, B, L0, t0⟩
  change Int at R B L0 t0
  simp (maxSteps := 4000000) [Try.f4, law4, wBig, wDrawC, s8, hb]
  refine ⟨fun h => by simp [↓retQ_ret], fun h1 h2 => ⟨by omega, fun h => ?_, fun g1 g2 g3 => ?_⟩⟩
  · refine AWp_loop_ind hΓ mixed tau (fun y : (Int × Int × Int × Int × Int) × Nat => ⟨[.any, .sl .byte more, .any, .any, .bool false, .ptr 0 0, .any, .any, .any, .any, .any, .ptr 1 0, .int .i64 y.1.2.2.1, .int .i64 y.1.2.2.2.1, .int .i64 y.1.2.2.2.2, .int .i64 y.2] ++ List.replicate 120 .any, [.cells 24 [.int .i64 3, .int .i64 10, .int .i64 y.1.1, .int .i64 y.1.2.1], .cells 24 [.int .i64 3, .int .i64 10, .int .i64 10, .int .i64 0]]⟩) (fun y => 12 - y.2) (fun y => y.2 ≤ 12 ∧ Kept 3 10 10 0 y.1.1 y.1.2.1 y.1.2.2.1 y.1.2.2.2.1 y.2) ((10, 0, 0, 0, 0), 0) [0, 2] ?_ ?_ ?_
    · simp [hC]
    · exact ⟨Nat.zero_le _, kept_zero (by omega) (by omega) (by omega)⟩
    · rintro ⟨⟨L, t, now, used, last⟩, i⟩ ⟨hi, hk⟩
      simp only at hi hk
      simp (maxSteps := 4000000) [s8, wAt]
      by_cases hlt : i < 12
      · have a1 := atV_in more (i := (i : Int)) (by omega)
        have a2 := atV_in more (i := (i : Int) + 20) (by omega)
        have a3 := atV_in more (i := (i : Int) + 40) (by omega)
        have x1 : IntKind.i64.wrap ((i : Int) + 20) = i + 20 := wrap64_id (by omega)
        have x2 : IntKind.i64.wrap ((i : Int) + 40) = i + 40 := wrap64_id (by omega)
        have m1 := Int.tmod_lt_of_pos (atV more ((i : Int) + 20)) (show (0 : Int) < 9 by decide)
        have m2 := Int.tmod_nonneg 9 a2.1
        have m3 := Int.tmod_lt_of_pos (atV more ((i : Int) + 40)) (show (0 : Int) < 5 by decide)
        have m4 := Int.tmod_nonneg 5 a3.1
        rw [x1, x2]
        generalize (atV more ((i : Int) + 20)).tmod 9 = f at *
        generalize (atV more ((i : Int) + 40)).tmod 5 = d at *
        generalize atV more (i : Int) = a at *
        have x3 : IntKind.i64.wrap (1 + f) = 1 + f := wrap64_id (by omega)
        have hmul : 0 ≤ a * (1 + f) ∧ a * (1 + f) ≤ 255 * 9 := mul_bound a1.1 a1.2 (by omega) (by omega)
        have x4 : IntKind.i64.wrap (a * (1 + f)) = a * (1 + f) := wrap64_id (by omega)
        have x5 : IntKind.i64.wrap (now + d) = now + d := wrap64_id (by have := hk.kt; have := hk.kz; omega)
        rw [x3, x4, x5]
        generalize a * (1 + f) = units at *
        obtain ⟨L', wait, hc, k', z1, z2, z3, z4, z5, w1, w2, w3, w4, w5, w6⟩ := charge_kept hlt hk (d := d) (units := units) (by omega) (by omega)
        have w4 : IntKind.i64.wrap (3 * (now + d)) = 3 * (now + d) := by have := w4; simpa using this
        have w5 : IntKind.i64.wrap (10 + 3 * (now + d)) = 10 + 3 * (now + d) := by have := w5; simpa using this
        have w6 : IntKind.i64.wrap (10 + 3 * (now + d) + units) = 10 + 3 * (now + d) + units := by have := w6; simpa using this
        have w7 : IntKind.i64.wrap ((i : Int) + 1) = ((i + 1 : Nat) : Int) := by rw [wrap64_id (by omega)]; rfl
        have h3 : more.length ≤ 1048576 := by omega
        simp only [hc, w1, w2, w4, w5, w6, w7]
        refine ⟨fun _ => ⟨⟨by omega, h3⟩, ⟨by omega, by omega, h3⟩, by omega, ⟨by omega, by omega, h3⟩, by omega, fun h => by omega, fun _ => ⟨fun _ _ => ⟨⟨trivial, z3⟩, fun h => ⟨⟨trivial, z3⟩, h⟩⟩, fun _ _ hh => ⟨⟨trivial, z3⟩, by by_cases 0 < wait; right; exact z4 ‹_›; left; omega⟩, fun h => ?_, fun _ _ _ _ => ⟨fun h => ?_, fun _ => ?_⟩⟩⟩, fun h => by omega⟩
        · exfalso
          rcases h with ((h | h) | h) | h
          · cases h
          · omega
          · have := z4 h.1; omega
          · omega
        · have := z5 (by omega); omega
        · exact ⟨L', now + d, now + d + wait, used + units, units, i + 1, ⟨by omega, k'⟩, by omega, [0, 1], by simp [hC], by decide, ⟨rfl, rfl, rfl, rfl, rfl, rfl⟩, by simp [leH, leO, leT, leA]⟩
      · refine ⟨fun h => by omega, fun _ => by simp [↓retQ_ret, ↓retQ_normal]⟩
  · have hz : (1 ≤ R ∧ R ≤ 1000000) ∧ (0 ≤ B ∧ B ≤ 1000000) ∧ (0 ≤ t0 ∧ t0 ≤ 500000000000 ∧ -1000000 ≤ L0 ∧ L0 ≤ B) := by
      have hk : chargeOk (R, B, L0, t0) t0 0 = true := by
        by_cases hh : chargeOk (R, B, L0, t0) t0 0 = true
        · exact hh
        · simp only [charge, hh] at g1; cases g1
      simp only [chargeOk, inB, Bool.and_eq_true, decide_eq_true_eq] at hk
      omega
    obtain ⟨z1, z2, z3⟩ := hz
    refine AWp_loop_ind hΓ mixed tau (fun y : (Int × Int × Int × Int × Int) × Nat => ⟨[.any, .sl .byte more, .any, .any, .bool false, .ptr 0 0, .any, .any, .any, .any, .any, .ptr 1 0, .int .i64 y.1.2.2.1, .int .i64 y.1.2.2.2.1, .int .i64 y.1.2.2.2.2, .int .i64 y.2] ++ List.replicate 120 .any, [.cells 24 [.int .i64 R, .int .i64 B, .int .i64 y.1.1, .int .i64 y.1.2.1], .cells 24 [.int .i64 R, .int .i64 B, .int .i64 L0, .int .i64 t0]]⟩) (fun y => 12 - y.2) (fun y => y.2 ≤ 12 ∧ Kept R B L0 t0 y.1.1 y.1.2.1 y.1.2.2.1 y.1.2.2.2.1 y.2) ((L0, t0, t0, 0, 0), 0) [0, 2] ?_ ?_ ?_
    · simp [hC]
    · exact ⟨Nat.zero_le _, kept_zero (by omega) (by omega) (by omega)⟩
    · rintro ⟨⟨L, t, now, used, last⟩, i⟩ ⟨hi, hk⟩
      simp only at hi hk
      simp (maxSteps := 4000000) [s8, wAt]
      by_cases hlt : i < 12
      · have a1 := atV_in more (i := (i : Int)) (by omega)
        have a2 := atV_in more (i := (i : Int) + 20) (by omega)
        have a3 := atV_in more (i := (i : Int) + 40) (by omega)
        have x1 : IntKind.i64.wrap ((i : Int) + 20) = i + 20 := wrap64_id (by omega)
        have x2 : IntKind.i64.wrap ((i : Int) + 40) = i + 40 := wrap64_id (by omega)
        have m1 := Int.tmod_lt_of_pos (atV more ((i : Int) + 20)) (show (0 : Int) < 9 by decide)
        have m2 := Int.tmod_nonneg 9 a2.1
        have m3 := Int.tmod_lt_of_pos (atV more ((i : Int) + 40)) (show (0 : Int) < 5 by decide)
        have m4 := Int.tmod_nonneg 5 a3.1
        rw [x1, x2]
        generalize (atV more ((i : Int) + 20)).tmod 9 = f at *
        generalize (atV more ((i : Int) + 40)).tmod 5 = d at *
        generalize atV more (i : Int) = a at *
        have x3 : IntKind.i64.wrap (1 + f) = 1 + f := wrap64_id (by omega)
        have hmul : 0 ≤ a * (1 + f) ∧ a * (1 + f) ≤ 255 * 9 := mul_bound a1.1 a1.2 (by omega) (by omega)
        have x4 : IntKind.i64.wrap (a * (1 + f)) = a * (1 + f) := wrap64_id (by omega)
        have x5 : IntKind.i64.wrap (now + d) = now + d := wrap64_id (by have := hk.kt; have := hk.kz; omega)
        rw [x3, x4, x5]
        generalize a * (1 + f) = units at *
        obtain ⟨L', wait, hc, k', y1, y2, y3, y4, y5, w1, w2, w3, w4, w5, w6⟩ := charge_kept hlt hk (d := d) (units := units) (by omega) (by omega)
        have w7 : IntKind.i64.wrap ((i : Int) + 1) = ((i + 1 : Nat) : Int) := by rw [wrap64_id (by omega)]; rfl
        have h3 : more.length ≤ 1048576 := by omega
        simp only [hc, w1, w2, w3, w4, w5, w6, w7]
        refine ⟨fun _ => ⟨⟨by omega, h3⟩, ⟨by omega, by omega, h3⟩, by omega, ⟨by omega, by omega, h3⟩, by omega, fun h => by omega, fun _ => ⟨fun _ _ => ⟨⟨trivial, y3⟩, fun h => ⟨⟨trivial, y3⟩, h⟩⟩, fun _ _ hh => ⟨⟨trivial, y3⟩, by by_cases 0 < wait; right; exact y4 ‹_›; left; omega⟩, fun h => ?_, fun _ _ _ _ => ⟨fun h hL => ?_, fun _ => ?_⟩⟩⟩, fun h => by omega⟩
        · exfalso
          rcases h with ((h | h) | h) | h
          · cases h
          · omega
          · have := y4 h.1; omega
          · omega
        · have := y5 hL; omega
        · exact ⟨L', now + d, now + d + wait, used + units, units, i + 1, ⟨by omega, k'⟩, by omega, [0, 1], by simp [hC], by decide, ⟨rfl, rfl, rfl, rfl, rfl, rfl⟩, by simp [leH, leO, leT, leA]⟩
      · refine ⟨fun h => by omega, fun _ => by simp [↓retQ_ret, ↓retQ_normal]⟩
end Go.Proofs.Ytjokmclchdcjkaa
