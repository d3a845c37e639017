/- Commit: the contracts of both sides, and of what marks and holds its answer. -/
import Derived.Test.YtfinneebcfcdjaaDoorCa
import Derived.Test.YtfinneebcfcdjaaDoorFa
namespace Go.Proofs.YtfinneebcfcdjaaDoor
open Go Go.RowKit
set_option linter.all false
set_option pp.deepTerms true
set_option pp.maxSteps 200000
set_option maxRecDepth 100000
set_option maxHeartbeats 4000000
def wHd : Spec [(false, .sl T47), (false, .int .i64)] := ⟨fun x => x.1 = [], fun x _ => .int .i64 x.2.1, fun _ => []⟩
def wRec : Spec [(true, T27), (false, .int .i64)] := ⟨fun x => x.1.2.2.2.2.2 = [] ∧ 0 ≤ x.2.1, fun x _ => .int .i64 x.2.1, fun _ => []⟩
theorem h21_ok : FSpecOk Tryd.prog 21 wHd := by
  intro x n hp
  obtain ⟨l, k, u⟩ := x; change Int at k
  have hp : l = [] := hp
  subst hp
  refine FnOk_intro [.one .w] Tryd.func21 rfl ?_
  intro hw C hC
  have hΓ := (noC_ok : CtrsOk Tryd.prog noC)
  refine ACode_ok (τ := tau) hΓ mixed _ _ _ ?_
  simp [Tryd.f21, wHd]
  refine AWp_loop_ind hΓ mixed tau (fun i : Nat => ⟨[.sl T47 [], .int .i64 k, .any, .any, .any, .int .i64 0] ++ List.replicate 23 .any, []⟩) (fun i => 0) (fun i => True) 0 [] ?_ ?_ ?_
  · simp [hC]
  · simp
  · intro i hi
    simp
    simp [↓retQ_ret]
theorem h22_ok : FSpecOk Tryd.prog 22 wHd := by
  intro x n hp
  obtain ⟨l, k, u⟩ := x; change Int at k
  have hp : l = [] := hp
  subst hp
  refine FnOk_intro [.one .w] Tryd.func22 rfl ?_
  intro hw C hC
  have hΓ := (noC_ok : CtrsOk Tryd.prog noC)
  refine ACode_ok (τ := tau) hΓ mixed _ _ _ ?_
  simp [Tryd.f22, wHd]
  refine AWp_loop_ind hΓ mixed tau (fun i : Nat => ⟨[.sl T47 [], .int .i64 k, .any, .any, .any, .int .i64 0] ++ List.replicate 27 .any, []⟩) (fun i => 0) (fun i => True) 0 [] ?_ ?_ ?_
  · simp [hC]
  · simp
  · intro i hi
    simp
    simp [↓retQ_ret]
theorem h9_ok : FSpecOk Tryd.prog 9 wRec := by
  intro x n hp
  obtain ⟨⟨a, b, c, d, l, m⟩, k, u⟩ := x; change Int at k
  obtain ⟨h1, h2⟩ : m = [] ∧ 0 ≤ k := hp
  subst h1
  refine FnOk_intro [.one .w] Tryd.func9 rfl ?_
  intro hw C hC
  have hΓ := CtrOk.add h21_ok rfl (noC_ok : CtrsOk Tryd.prog noC)
  refine ACode_ok (τ := tau) hΓ mixed _ _ _ ?_
  simp [Tryd.f9, wRec, wHd]
  simp [↓retQ_ret, ↓retQ_normal, h2]
theorem h10_ok : FSpecOk Tryd.prog 10 wRec := by
  intro x n hp
  obtain ⟨⟨a, b, c, d, l, m⟩, k, u⟩ := x; change Int at k
  obtain ⟨h1, h2⟩ : m = [] ∧ 0 ≤ k := hp
  subst h1
  refine FnOk_intro [.one .w] Tryd.func10 rfl ?_
  intro hw C hC
  have hΓ := CtrOk.add h22_ok rfl (noC_ok : CtrsOk Tryd.prog noC)
  refine ACode_ok (τ := tau) hΓ mixed _ _ _ ?_
  simp [Tryd.f10, wRec, wHd]
  simp [↓retQ_ret, ↓retQ_normal, h2]
  try omega
/-! ### Commit -/
def comB (g : List UInt8) (s : T30.D) (o t : Int) : Bool := nameB g && slotB s && inB o 0 1000000000 && inB t 0 1000000000000
def comK (g : List UInt8) (s : T30.D) : List UInt8 := g ++ [47] ++ s.1 ++ [47] ++ Lib.itoa s.2
def comR (g : List UInt8) (s : T30.D) (o t : Int) : AV :=
  if comB g s o t = true then .agg [.int .i64 t, .bool true, .str (comK g s), .bool false, .str (Lib.itoa o), .nilsl]
  else .agg [.int .i64 0, .bool false, .str [], .bool false, .str [], .nilsl]
def wCom : HSpec [.val false .str, .val true T30, .val false (.int .i64), .val false (.int .i64)] :=
  ⟨fun _ => True, fun x => .tup [comR x.1 x.2.1 x.2.2.1 x.2.2.2.1, .bool (comB x.1 x.2.1 x.2.2.1 x.2.2.2.1)], fun _ => []⟩
theorem com_no {g : List UInt8} {s : T30.D} {o t : Int} (h : comB g s o t = false) : comR g s o t = .agg [.int .i64 0, .bool false, .str [], .bool false, .str [], .nilsl] := by unfold comR; rw [h]; rfl
theorem com_yes {g : List UInt8} {s : T30.D} {o t : Int} (h : comB g s o t = true) : comR g s o t = .agg [.int .i64 t, .bool true, .str (comK g s), .bool false, .str (Lib.itoa o), .nilsl] := by unfold comR; rw [h]; rfl
theorem name_len {s : List UInt8} (h : nameB s = true) : s.length ≤ 20 := by
  unfold nameB at h
  simp only [Bool.and_eq_true, decide_eq_true_eq] at h
  omega
theorem f5_ok : HSpecOk Tryd.prog 5 wCom := by
  intro x hp
  obtain ⟨g, ⟨tp, pt⟩, o, t, u⟩ := x; change List UInt8 at g tp; change Int at pt o t
  refine HOk_intro [] [] rfl Tryd.func5 rfl ?_
  intro hw C hC
  have hΓ := CtrsOk.addPX (id := 3) (X := [1]) (p := .take 0 (.take 1 (.take 2 (.take 3 (.take 4 (.take 5 (.take 6 (.take 7 (.take 8 (.take 11 (.one 9 (.two 10 12 (.one 12 (.one 13 (.one 14 (.one 15 .done)))) (.one 10 (.one 13 (.one 14 (.one 15 .done)))))))))))))))) (CtrOk.add f11_ok rfl (CtrOk.add f12_ok rfl (CtrOk.add f13_ok rfl (CtrOk.add f14_ok rfl (noC_ok : CtrsOk Tryd.prog noC)))))
  have hr : inR .i64 pt ∧ inR .i64 o := by simp [inR] at hw ⊢; omega
  have l1 := itoa_len hr.1
  have l2 := itoa_len hr.2
  refine ACode_ok (τ := tau) hΓ mixed _ _ _ ?_
  simp [Tryd.f5, wCom, wN, wSlot, wB, wTime, wOff, wIt, maxB]
  repeat' (first | with_reducible refine And.intro ?_ ?_ | with_reducible intro _ | (show ¬ _; intro _))
  all_goals first
    | (show (_ : Bool) = true; kernel_rfl)
    | assumption
    | (have e : comB g (tp, pt) o t = false := by unfold comB; simp; clear hΓ; grind
       simp [↓retHQ_ret, ↓retHQ_normal, com_no e, e]; done)
    | (have e : comB g (tp, pt) o t = true := by unfold comB; simp; clear hΓ; grind
       simp [↓retHQ_ret, ↓retHQ_normal, com_yes e, e, comK]; done)
    | (have b1 := name_len (s := g) (by assumption)
       have b2 := name_len (s := tp) (by have h : slotB (tp, pt) = true := by assumption
                                         unfold slotB at h; simp only [Bool.and_eq_true] at h; exact h.1)
       omega)
    | trace_state
theorem f7_ok : HSpecOk Tryd.prog 7 wCom := by
  intro x hp
  obtain ⟨g, ⟨tp, pt⟩, o, t, u⟩ := x; change List UInt8 at g tp; change Int at pt o t
  refine HOk_intro [] [] rfl Tryd.func7 rfl ?_
  intro hw C hC
  have hΓ := CtrsOk.addPX (id := 3) (X := [1]) (p := .take 0 (.take 1 (.take 2 (.take 3 (.take 4 (.take 5 (.take 6 (.take 7 (.take 8 (.take 11 (.one 9 (.two 10 12 (.one 12 (.one 13 (.one 14 (.one 15 .done)))) (.one 10 (.one 13 (.one 14 (.one 15 .done)))))))))))))))) (CtrOk.add f15_ok rfl (CtrOk.add f16_ok rfl (CtrOk.add f17_ok rfl (CtrOk.add f18_ok rfl (CtrOk.add f19_ok rfl (noC_ok : CtrsOk Tryd.prog noC))))))
  have hr : inR .i64 pt ∧ inR .i64 o := by simp [inR] at hw ⊢; omega
  have l1 := itoa_len hr.1
  have l2 := itoa_len hr.2
  refine ACode_ok (τ := tau) hΓ mixed _ _ _ ?_
  simp [Tryd.f7, wCom, wN, wSlot, wB, wTime, wOff, wIt, maxB]
  repeat' (first | with_reducible refine And.intro ?_ ?_ | with_reducible intro _ | (show ¬ _; intro _))
  all_goals first
    | (show (_ : Bool) = true; kernel_rfl)
    | assumption
    | (have e : comB g (tp, pt) o t = false := by unfold comB; simp; clear hΓ; grind
       simp [↓retHQ_ret, ↓retHQ_normal, com_no e, e]; done)
    | (have e : comB g (tp, pt) o t = true := by unfold comB; simp; clear hΓ; grind
       simp [↓retHQ_ret, ↓retHQ_normal, com_yes e, e, comK]; done)
    | (have b1 := name_len (s := g) (by assumption)
       have b2 := name_len (s := tp) (by have h : slotB (tp, pt) = true := by assumption
                                         unfold slotB at h; simp only [Bool.and_eq_true] at h; exact h.1)
       omega)
    | trace_state
end Go.Proofs.YtfinneebcfcdjaaDoor
