/- The law FnExactWriteRow. -/
import Derived.Test.YthojapklndjidaaWi
import Derived.Test.YthojapklndjidaaFz
namespace Go.Proofs.Ythojapklndjidaa
open Go Go.RowKit
set_option linter.all false
set_option pp.deepTerms true
set_option pp.maxSteps 200000
theorem wrL_len {id : Int} {s : T32.D} {r : List T70.D} (hr : -9223372036854775808 ≤ id ∧ id ≤ 9223372036854775807) : (wrL id s r).length ≤ 66230 := by
  cases h : wrB id s r with
  | false => rw [wr_no h]; simp
  | true =>
    obtain ⟨_, h1, h2, h3⟩ := wrB_ok h
    have a1 := rowW_len h3
    have a2 := putL_len hr
    rw [wr_yes h, List.length_append]; omega
theorem cnt_bytes (l : List UInt8) : cntE (.sl .byte) l = l.length := by
  induction l with
  | nil => rfl
  | cons x xs ih =>
    have e : cntE (.sl .byte) (x :: xs) = 1 + cntE (.sl .byte) xs := by rw [cntE_sl, cntE_sl, List.map_cons, List.sum_cons]; rfl
    rw [e, ih, List.length_cons]; omega
def law3 : Spec [(false, (Ty.int .i64)), (true, T24), (false, (Ty.sl T64))] := ⟨fun _ => True, fun _ _ => .bool true, fun _ => []⟩
set_option maxHeartbeats 8000000 in
set_option maxRecDepth 100000 in
theorem law3_ok : FSpecOk Try.prog 3 law3 := by
  intro x n hp
  obtain ⟨id, ⟨nr, fr⟩, row, u⟩ := x; change Int at id; change List UInt8 at nr; change List T73.D at fr
  change List (T64).D at row
  refine FnOk_intro [.one .w] Try.func3 rfl ?_
  intro hw C hC
  have hr : -9223372036854775808 ≤ id ∧ id ≤ 9223372036854775807 := by simp [inR] at hw; omega
  have hΓ := (CtrsOk.addP (id := 14) (p := .take 0 (.take 1 (.one 2 (.one 3 (.one 4 .done))))) (CtrOk.add c6_ok rfl (CtrOk.add c7_ok rfl (CtrsOk.addZ k9_ok rfl (CtrsOk.addH c9_ok rfl (CtrsOk.addZ k10_ok rfl (CtrsOk.addH c10_ok rfl (CtrOk.add f8_ok rfl (CtrOk.add f11_ok rfl (CtrOk.add c12_ok rfl (CtrOk.add c13_ok rfl (CtrOk.add c14_ok rfl (CtrsOk.addH c15_ok rfl (CtrsOk.addH c16_ok rfl (CtrsOk.addH c17_ok rfl (CtrOk.add c18_ok rfl (noC_ok : CtrsOk Try.prog noC)))))))))))))))))
  refine ACode_ok (τ := tau) hΓ mixed _ _ _ ?_
  simp (maxSteps := 8000000) [Try.f3, law3, c18, c17, c16, c15, c14, c13, c12, wWr, c10, k10, c9, k9, c7, c6]
  refine ⟨fun h => by simp [↓retQ_ret], fun h0 => ?_⟩
  have b1 := bnd_szr (T := T24) (x := (nr, fr)) (by omega) h0
  refine ⟨b1.2, fun h => by simp [↓retQ_ret], fun h => ?_⟩
  have b3 := bnd_szr (T := (Ty.sl T64)) (x := row) b1.2 h
  have d1 : cntE T32 (nr, fr) ≤ wid T24 * 1048577 := cnt_szr (T := T24) (x := (nr, fr)) (by omega) h0
  have d5 : cntE (.sl T70) row ≤ wid (.sl T64) * 1048577 := cnt_szr (T := .sl T64) (x := row) b1.2 h
  have d3 := cntV_le T32 (nr, fr)
  have v1 := mkV_snd T32 (nr, fr)
  simp only [wid] at d1 d5
  have e6 := wrL_len (s := (nr, fr)) (r := row) hr
  have e5 := cnt_bytes (wrL id (nr, fr) row)
  generalize wrL id (nr, fr) row = R at *
  have e0 := take_mk (T := .byte) R 1
  have e1 := hd_again (T := .byte) R 1
  have e2 := cnt_again (T := .byte) R 1
  have e3 := fun (G : List UInt8) k => mkL_snd' (T := .byte) G k
  have e4 := fun (G : List UInt8) k => mkL_length (f := mkE .byte) G k
  have v3 := fun k => mkL_snd' (T := T70) row k
  simp only [e0, e1, e2, e3, e4, v1, v3]
  repeat' first
    | exact b1.1
    | exact b3.1
    | omega
    | (show (_ : Bool) = true; kernel_rfl)
    | (show Region.lexB .any _ = true; kernel_rfl)
    | (simp [↓retQ_ret]; done)
    | with_reducible refine And.intro ?_ ?_
    | intro _
  all_goals trace_state
end Go.Proofs.Ythojapklndjidaa
