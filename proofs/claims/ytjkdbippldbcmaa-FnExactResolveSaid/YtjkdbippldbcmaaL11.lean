/- The law FnExactResolve. -/
import Derived.Test.YtjkdbippldbcmaaXb
import Derived.Test.YtjkdbippldbcmaaFz
namespace Go.Proofs.Ytjkdbippldbcmaa
open Go Go.RowKit
set_option linter.all false
theorem resL_items {s w : T50.D} {row : List T29.D} (h : resB s w row = true) : ∀ v ∈ resL s.2 w.2 row, v.2.2.2.2.length ≤ 30 := by
  simp only [resB, Bool.and_eq_true] at h
  obtain ⟨h1, h2⟩ := h
  obtain ⟨s1, s2⟩ := can_schema h1
  have hrl := row_len h2
  intro v hv
  unfold resL at hv
  obtain ⟨f, hf, rfl⟩ := List.mem_map.1 hv
  obtain ⟨i, hi, rfl⟩ := List.mem_iff_getElem.1 hf
  have e : s.2[i] = nth T39 s.2 i := by unfold nth; rw [List.getD_eq_getElem?_getD, List.getElem?_eq_getElem hi]; rfl
  rw [e]
  have hb := (atL_lt (ws := w.2) (l := namesF (nth T39 s.2 i)))
  have hb : atF w.2 (nth T39 s.2 i) < w.2.length := hb.2
  unfold pickV
  split
  · have := row_items h2 (i := (atF w.2 (nth T39 s.2 i)).toNat) (by omega)
    split
    · exact this
    · exact this
  · exact (field_items s1 hi).1
theorem resV_items (s w : T50.D) (row : List T29.D) : ∀ v ∈ resV s w row, v.2.2.2.2.length ≤ 30 := by
  unfold resV
  split
  · rename_i h; exact resL_items h
  · intro v hv; cases hv
theorem resV_len (s w : T50.D) (row : List T29.D) : (resV s w row).length ≤ 20 := by
  unfold resV
  split
  · rename_i h
    simp only [resB, Bool.and_eq_true] at h
    have := schema_len (can_schema h.1).1
    unfold resL; simp; omega
  · simp
theorem cnt_it (l : List T101.D) : cntE (.sl T101) l = 2 * l.length := by
  induction l with
  | nil => rfl
  | cons x xs ih =>
    have e : cntE (.sl T101) (x :: xs) = (1 + 1) + cntE (.sl T101) xs := by rw [cntE_sl, cntE_sl, List.map_cons, List.sum_cons]; rfl
    rw [e, ih, List.length_cons]; omega
theorem cnt_val (v : T29.D) : cntE T29 v = 4 + 2 * v.2.2.2.2.length := by
  have := cnt_it v.2.2.2.2
  show 1 + (1 + (1 + (1 + cntE (.sl T101) v.2.2.2.2))) = _
  omega
theorem cnt_vals : ∀ {l : List T29.D}, (∀ v ∈ l, v.2.2.2.2.length ≤ 30) → cntE (.sl T29) l ≤ 64 * l.length
  | [], _ => by simp [cntE]
  | x :: xs, h => by
    have ih := cnt_vals (l := xs) fun v hv => h v (List.mem_cons_of_mem _ hv)
    have hx := h x (List.mem_cons_self ..)
    have hv := cnt_val x
    have e : cntE (.sl T29) (x :: xs) = cntE T29 x + cntE (.sl T29) xs := by rw [cntE_sl, cntE_sl, List.map_cons, List.sum_cons]
    rw [e, List.length_cons]; omega
def law11 : Spec [(true, T45), (true, T45), (false, (Ty.sl T24))] := ⟨fun _ => True, fun _ _ => .bool true, fun _ => []⟩
set_option maxHeartbeats 8000000 in
set_option maxRecDepth 100000 in
theorem law11_ok : FSpecOk Try.prog 11 law11 := by
  intro x n hp
  obtain ⟨⟨nr, fr⟩, ⟨nw, fw⟩, row, u⟩ := x; change List UInt8 at nr nw; change List T39.D at fr fw
  change List (T24).D at row
  refine FnOk_intro [.one .w] Try.func11 rfl ?_
  intro hw C hC
  have hΓ := (CtrsOk.addP (id := 38) (p := .take 0 (.take 2 (.take 4 (.one 1 (.one 3 (.one 5 (.one 6 (.one 7 (.two 8 9 (.two 9 10 (.one 10 (.one 11 (.done))) (.one 9 (.one 11 (.done)))) (.one 8 (.one 10 (.one 11 (.done))))))))))))) (CtrsOk.addP (id := 11) (p := .take 0 (.take 2 (.take 4 (.one 1 (.one 3 (.one 5 (.one 6 (.one 7 (.two 8 9 (.two 9 10 (.one 10 (.one 11 (.done))) (.one 9 (.one 11 (.done)))) (.one 8 (.one 10 (.one 11 (.done))))))))))))) (CtrsOk.addP (id := 20) (p := .take 0 (.take 1 (.one 2 (.one 3 (.one 4 (.done)))))) (CtrsOk.addP (id := 18) (p := .take 0 (.take 1 (.one 2 (.one 3 (.one 4 (.done)))))) (CtrOk.add c24_ok rfl (CtrOk.add c29_ok rfl (CtrsOk.addZ k26_ok rfl (CtrsOk.addH c26_ok rfl (CtrsOk.addZ k31_ok rfl (CtrsOk.addH c31_ok rfl (CtrOk.add f53_ok rfl (CtrOk.add f54_ok rfl (CtrOk.add c33_ok rfl (CtrOk.add c28_ok rfl (CtrsOk.addH c39_ok rfl (CtrsOk.addH c50_ok rfl (CtrOk.add c55_ok rfl (noC_ok : CtrsOk Try.prog noC))))))))))))))))))
  refine ACode_ok (τ := tau) hΓ mixed _ _ _ ?_
  simp (maxSteps := 8000000) [Try.f11, law11, c55, c50, c39, c28, c33, wRes, c31, k31, c26, k26, c29, c24]
  refine ⟨fun h => by simp [↓retQ_ret], fun h0 => ?_⟩
  have b1 := bnd_szr (T := T45) (x := (nr, fr)) (by omega) h0
  refine ⟨b1.2, fun h => by simp [↓retQ_ret], fun h1 => ?_⟩
  have b2 := bnd_szr (T := T45) (x := (nw, fw)) b1.2 h1
  refine ⟨b2.2, fun h => by simp [↓retQ_ret], fun h => ?_⟩
  have b3 := bnd_szr (T := (Ty.sl T24)) (x := row) b2.2 h
  have d1 : cntE T50 (nr, fr) ≤ wid T45 * 1048577 := cnt_szr (T := T45) (x := (nr, fr)) (by omega) h0
  have d2 : cntE T50 (nw, fw) ≤ wid T45 * 1048577 := cnt_szr (T := T45) (x := (nw, fw)) b1.2 h1
  have d5 : cntE (.sl T29) row ≤ wid (.sl T24) * 1048577 := cnt_szr (T := .sl T24) (x := row) b2.2 h
  have d3 := cntV_le T50 (nr, fr)
  have d4 := cntV_le T50 (nw, fw)
  have v1 := mkV_snd T50 (nr, fr)
  have v2 := mkV_snd T50 (nw, fw)
  simp only [wid] at d1 d2 d5
  have e6 := resV_len (nr, fr) (nw, fw) row
  have e5 := cnt_vals (resV_items (nr, fr) (nw, fw) row)
  generalize resV (nr, fr) (nw, fw) row = R at *
  have e0 := take_mk (T := T29) R 1
  have e1 := hd_again (T := T29) R 1
  have e2 := cnt_again (T := T29) R 1
  have e3 := fun (G : List T29.D) k => mkL_snd' (T := T29) G k
  have e4 := fun (G : List T29.D) k => mkL_length (f := mkE T29) G k
  simp only [e0, e1, e2, e3, e4, v1, v2]
  repeat' first
    | exact b1.1
    | exact b2.1
    | exact b3.1
    | omega
    | (show (_ : Bool) = true; kernel_rfl)
    | (show Region.lexB .any _ = true; kernel_rfl)
    | (simp [↓retQ_ret]; done)
    | with_reducible refine And.intro ?_ ?_
    | intro _
end Go.Proofs.Ytjkdbippldbcmaa
