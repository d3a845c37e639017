/- The law FnReckoned. -/
import Derived.Test.YtfinneebcfcdjaaDz
import Derived.Test.YtfinneebcfcdjaaNj
import Derived.Test.YtfinneebcfcdjaaPa
namespace Go.Proofs.Ytfinneebcfcdjaa
open Go Go.RowKit
set_option linter.all false
set_option maxRecDepth 100000
set_option maxHeartbeats 8000000
def wBig : Spec [(false, .sl .byte)] := ⟨fun _ => True, fun x _ => .bool (decide (1048576 < (x.1.length : Int))), fun _ => []⟩
theorem big_ok : FSpecOk Try.prog 10 wBig := by
  intro x n hp
  obtain ⟨code, u⟩ := x; change List UInt8 at code
  refine FnOk_intro [.one .w] Try.func10 rfl ?_
  intro hw C hC
  refine ACode_ok (τ := tau) noC_ok mixed _ _ _ ?_
  simp [Try.f10, wBig]
  intro _
  simp [↓retQ_ret, ↓retQ_normal]
def law3 : Spec [(false, .sl .byte), (false, .sl .byte)] := ⟨fun _ => True, fun _ _ => .bool true, fun _ => []⟩
theorem law3_ok : FSpecOk Try.prog 3 law3 := by
  intro x n hp
  obtain ⟨code, more, u⟩ := x; change List UInt8 at code more
  refine FnOk_intro [.one .w] Try.func3 rfl ?_
  intro hw C hC
  have hΓ := CtrOk.add big_ok rfl (CtrOk.add f12_ok rfl (CtrOk.add f13_ok rfl (CtrsOk.addX reck_x rfl (noC_ok : CtrsOk Try.prog noC))))
  refine ACode_ok (τ := tau) hΓ mixed _ _ _ ?_
  simp (maxSteps := 8000000) [Try.f3, law3, wBig, xReck, wRc]
  obtain ⟨s1, s2⟩ := okE_seven
  simp only [s1, s2]
  refine ⟨fun _ => by simp [↓retQ_ret], fun h1 h2 => ⟨by omega, fun a cols row ha hcols hrow => ⟨by omega, fun b _ _ hb _ _ => ⟨fun h => by simp at h, fun _ _ _ _ => ⟨fun _ => by simp [↓retQ_ret], fun oa ob hl => ?_⟩⟩⟩⟩⟩
  have w1 : IntKind.i64.wrap ((a.length : Int) + b.length) = a.length + b.length := wrap64_id (by omega)
  rw [w1] at hl
  obtain ⟨p1, p2⟩ := okE_two oa ob (by omega) (op := 8) (by omega)
  obtain ⟨q1, q2⟩ := okE_two oa ob (by omega) (op := 9) (by omega)
  obtain ⟨r1, r2⟩ := okE_not oa (by omega)
  rw [List.append_assoc] at p1 p2 q1 q2
  have t1 : (outE (a ++ (b ++ [((8 : Int), (0 : Int), ([] : List UInt8))])) cols row = 1) ↔ outE a cols row < outE b cols row := by
    rw [p2]; simp only [doF]; exact truthI_one
  have t2 : (outE (a ++ (b ++ [((9 : Int), (0 : Int), ([] : List UInt8))])) cols row = 1) ↔ outE a cols row = outE b cols row := by
    rw [q2]; simp only [doF]; exact truthI_one
  have t3 : (outE (a ++ [((12 : Int), (0 : Int), ([] : List UInt8))]) cols row = 1) ↔ outE a cols row = 0 := by
    rw [r2]; exact truthI_one
  refine ⟨by omega, by omega, by omega, by omega, by omega, by omega, by omega, ?_⟩
  have k1 : (a ++ b).take (a.length + b.length) = a ++ b := List.take_of_length_le (by simp)
  have k2 : ∀ x : T32.D, ((a ++ b) ++ [x]).take (a.length + b.length + 1) = a ++ (b ++ [x]) := fun x => by rw [List.take_of_length_le (by simp; omega), List.append_assoc]
  have k3 : ∀ x : T32.D, (a ++ [x]).take (a.length + 1) = a ++ [x] := fun x => List.take_of_length_le (by simp)
  simp [↓retQ_ret, p1, q1, r1, t1, t2, t3]
  simp only [k1, k2, k3, p1, q1, r1, t1, t2, t3]
  simp
end Go.Proofs.Ytfinneebcfcdjaa
