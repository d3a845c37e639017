/- Schemas: the contract of impl.SchemaOk. -/
import Derived.Test.YthojapklndjidaaVs
namespace Go.Proofs.Ythojapklndjidaa
open Go Go.RowKit
set_option linter.all false
set_option pp.deepTerms true
set_option pp.maxSteps 200000
set_option maxHeartbeats 4000000 in
set_option maxRecDepth 100000 in
theorem f48_ok : FSpecOk Try.prog 48 wS := by
  intro x n hp
  obtain ⟨⟨nm, fs⟩, u⟩ := x; change List UInt8 at nm; change List T73.D at fs
  refine FnOk_intro [.one .w] Try.func48 rfl ?_
  intro hw C hC
  have hΓ := CtrOk.add f66_ok rfl (CtrOk.add f53_ok rfl (CtrOk.add f86_ok rfl (noC_ok : CtrsOk Try.prog noC)))
  refine ACode_ok (τ := tau) hΓ mixed _ _ _ ?_
  simp [Try.f48, wS, wN, wB, w80]
  intro hmax0
  refine ⟨fun h => ?_, fun h1 h2 hmax => ?_⟩
  · rcases h with h | h <;> simp [↓retQ_ret, schemaB, h]
  refine AWp_loop_ind hΓ mixed tau (fun i : Nat => ⟨[.any, .ptr 0 0, .bool false, .omap 1] ++ List.replicate 17 .any ++ [.sl T73 fs, .int .i64 fs.length, .int .i64 i] ++ List.replicate 24 .any, [.cells 32 [.str nm, .sl T73 fs], .map .str .bool (setM (namesT fs i))]⟩) (fun i => fs.length - i) (fun i => i ≤ fs.length ∧ (∀ j, j < i → fieldB (nth T73 fs j) = true) ∧ (namesT fs i).Nodup) 0 [0, 1] ?_ ?_ ?_
  · simp [hC]; rfl
  · simp; exact List.nodup_nil
  · rintro i ⟨hi, ht, hnd⟩
    rcases hf : nth T73 fs i with ⟨fn, fk, fl, fm, fwas, fx, vk, vn, vt, vl, vi⟩
    change List UInt8 at fn; change List (List UInt8) at fwas
    simp [w80, hf]
    rw [← hf]
    refine ⟨fun hlt => ⟨hlt, fun hb => ?_, fun hb => ⟨?_, fun hl => ?_⟩⟩, fun hge => ?_⟩
    · have := schemaB_no1 (nm := nm) hlt hb
      simp [↓retQ_ret, this]
    · have := fieldB_was hb
      rw [hf] at this
      simp only at this
      omega
    · refine AWp_loop_ind hΓ mixed tau (fun j : Nat => ⟨[.any, .ptr 0 0, .bool false, .omap 1] ++ List.replicate 17 .any ++ [.sl T73 fs, .int .i64 fs.length, .int .i64 i] ++ List.replicate 11 .any ++ [.osl 2 (fwas.length + 1), .int .i64 (fwas.length + 1), .int .i64 j] ++ List.replicate 10 .any, [.cells 32 [.str nm, .sl T73 fs], .map .str .bool (setM (namesT fs i ++ (fn :: fwas).take j)), .arr .str 9 (fn :: fwas)]⟩) (fun j => fwas.length + 1 - j) (fun j => j ≤ fwas.length + 1 ∧ (namesT fs i ++ (fn :: fwas).take j).Nodup) 0 [0, 1, 4] ?_ ?_ ?_
      · simp [hC]
      · simpa using hnd
      · rintro j ⟨hj, hnj⟩
        generalize hx : nth Ty.str (fn :: fwas) j = x
        simp [hx]
        refine ⟨fun hlt2 => ⟨hlt2, by omega, fun hm => ?_, fun hm => ?_⟩, fun hge => ?_⟩
        · have hmem := (mget_set (K := .str) (fun a b => keq_str)).1 hm
          have hd : ¬ (namesT fs i ++ namesF (nth T73 fs i)).Nodup := by
            rw [hf]; show ¬ (namesT fs i ++ (fn :: fwas)).Nodup
            rw [split_nth (T := .str) (l := fn :: fwas) (i := j) (by simp; omega), hx, ← List.append_assoc]
            exact not_nodup hmem
          have := schemaB_dup (nm := nm) hlt hd
          simp [↓retQ_ret, this]
        · have hmem := (mget_set_no (K := .str) (fun a b => keq_str)).1 hm
          have e : (fn :: fwas).take (j + 1) = (fn :: fwas).take j ++ [x] := by rw [take_nth (T := .str) (by simp; omega), hx]
          refine ⟨j + 1, ⟨by omega, ?_⟩, by omega, [0, 1, 2], by simp [hC], by simp, ⟨by simp, by simp, by simp, wrap64_id (by omega)⟩, ?_⟩
          · rw [e, ← List.append_assoc]; exact nodup_snoc.2 ⟨hnj, hmem⟩
          · rw [mput_set (fun a b => keq_str) hmem, e, ← List.append_assoc]; simp
        · have e : (fn :: fwas).take j = fn :: fwas := List.take_of_length_le (by simp; omega)
          have e2 : namesT fs (i + 1) = namesT fs i ++ (fn :: fwas) := by rw [namesT_succ hlt, hf]; rfl
          refine ⟨i + 1, ⟨by omega, fun j hj => ?_, ?_⟩, by omega, [0, 1], by simp [hC], by simp, ⟨by simp, by simp, wrap64_id (by omega)⟩, ?_⟩
          · rcases Nat.lt_succ_iff_lt_or_eq.1 hj with h | h
            · exact ht j h
            · rw [h]; exact hb
          · rw [e2]; rw [e] at hnj; exact hnj
          · rw [e, e2]; simp
    · have := schemaB_all h1 h2 (fun j hj => ht j (by omega)) (by rw [show fs.length = i by omega]; exact hnd)
      simp [↓retQ_ret, this]
end Go.Proofs.Ythojapklndjidaa
