/- Schemas: the contract of spec.SchemaOk. -/
import Derived.Test.YthojapklndjidaaVs
namespace Go.Proofs.Ythojapklndjidaa
open Go Go.RowKit
set_option linter.all false
set_option pp.deepTerms true
set_option pp.maxSteps 200000
set_option maxHeartbeats 4000000 in
set_option maxRecDepth 100000 in
theorem f45_ok : FSpecOk Try.prog 45 wS := by
  intro x n hp
  obtain ⟨⟨nm, fs⟩, u⟩ := x; change List UInt8 at nm; change List T73.D at fs
  refine FnOk_intro [.one .w] Try.func45 rfl ?_
  intro hw C hC
  have hΓ := CtrsOk.addPX (id := 10) (X := [1]) (p := .take 0 (.take 1 (.take 2 (.take 5 (.take 6 (.one 3 (.one 4 (.one 7 (.one 8 .done))))))))) (CtrOk.add f59_ok rfl (CtrOk.add f30_ok rfl (CtrOk.add f74_ok rfl (CtrOk.add f83_ok rfl (noC_ok : CtrsOk Try.prog noC)))))
  refine ACode_ok (τ := tau) hΓ mixed _ _ _ ?_
  simp [Try.f45, wS, wN, wB, w65, wVO]
  intro hmax0
  refine ⟨fun h => ?_, fun h1 h2 => ?_⟩
  · rcases h with h | h <;> simp [↓retQ_ret, schemaB, h]
  refine AWp_loop_ind hΓ mixed tau (fun i : Nat => ⟨[.any, .ptr 0 0, .bool false, .osl 1 (namesT fs i).length, .int .i64 i] ++ List.replicate 92 .any, [.cells 32 [.str nm, .sl T73 fs], .arr .str 9 (namesT fs i)]⟩) (fun i => fs.length - i) (fun i => i ≤ fs.length ∧ (∀ j, j < i → fieldB1 (nth T73 fs j) = true)) 0 [0, 1] ?_ ?_ ?_
  · simp [hC]; exact ⟨rfl, rfl⟩
  · simp
  · rintro i ⟨hi, ht⟩
    rcases hf : nth T73 fs i with ⟨fn, fk, fl, fm, fwas, fx, vk, vn, vt, vl, vi⟩
    change List UInt8 at fn; change List (List UInt8) at fwas
    simp [wB, wVO, w65, hf]
    intro _
    refine ⟨fun hlt => ⟨hlt, fun _ => ⟨fun hb => ?_, fun hk hwl => ?_⟩⟩, fun hge => ?_⟩
    · have hb : fieldB1 (nth T73 fs i) = false := by
        rw [hf]; simp only [fieldB1, Bool.and_eq_false_iff]
        rcases hb with hb | hb
        · exact .inl (.inl hb)
        · exact .inl (.inr (by simp; omega))
      have := schemaB_no1 (nm := nm) hlt (fieldB_of1 hb)
      simp [↓retQ_ret, this]
    · have hlen := namesT_len (fs := fs) (i := i) hi fun j hj => fieldB1_was (ht j hj)
      have h20 : fs.length ≤ 20 := by simp [inB] at h2; omega
      refine ⟨by show (_ : Bool) = true; kernel_rfl, ⟨by omega, by omega⟩, ⟨by omega, by omega⟩, fun h => ⟨h, fun h' => ⟨h, h'⟩⟩, fun h => ?_, fun hb => ?_, fun g1 g2 => ?_⟩
      · cases fx with
        | false => exact .inl rfl
        | true => exact .inr (h rfl)
      · have hb : fieldB1 (nth T73 fs i) = false := by
          rw [hf]; simp only [fieldB1, Bool.and_eq_false_iff]
          rcases hb with ⟨e, hb⟩ | ⟨e, hb⟩
          · exact .inr (by subst e; simp [hb])
          · exact .inr (by subst e; simp [hb])
        have := schemaB_no1 (nm := nm) hlt (fieldB_of1 hb)
        simp [↓retQ_ret, this]
      · have hb : fieldB1 (nth T73 fs i) = true := by
          rw [hf]; simp only [fieldB1, Bool.and_eq_true]
          refine ⟨⟨hk, by simpa using hwl⟩, ?_⟩
          cases fx with
          | false => simpa using g2 rfl
          | true => simpa using g1 rfl
        have e : namesT fs (i + 1) = List.take ((namesT fs i).length + 1) (namesT fs i ++ [fn]) ++ fwas := by
          rw [namesT_succ hlt, hf, List.take_of_length_le (by simp)]; simp [namesF]
        have el : (namesT fs (i + 1)).length = (namesT fs i).length + 1 + fwas.length := by
          rw [namesT_succ hlt, hf]; simp [namesF]; omega
        refine ⟨i + 1, ⟨by omega, fun j hj => ?_⟩, by omega, [0, 5], by simp [hC], by simp, ⟨by simp, by simp [el], wrap64_id (by omega)⟩, by simp [e]⟩
        rcases Nat.lt_succ_iff_lt_or_eq.1 hj with h | h
        · exact ht j h
        · rw [h]; exact hb
    · have hie : i = fs.length := by omega
      have eN : namesS (nm, fs) = namesT fs i := by unfold namesS namesT; rw [hie, List.take_length]
      have hlen := namesT_len (fs := fs) (i := i) hi fun j hj => fieldB1_was (ht j hj)
      have h20 : fs.length ≤ 20 := by simp [inB] at h2; omega
      have e1 : fs.all fieldB1 = true := (all_nth (T := T73)).2 fun j hj => ht j (by omega)
      clear hf
      generalize namesT fs i = N at *
      refine AWp_loop_ind hΓ mixed tau (fun a : Nat => ⟨[.any, .ptr 0 0, .bool false, .osl 1 N.length, .any, .any, .int .i64 a] ++ List.replicate 90 .any, [.cells 32 [.str nm, .sl T73 fs], .arr .str 9 N]⟩) (fun a => N.length - a) (fun a => a ≤ N.length ∧ (∀ b, b < a → nameB (nth Ty.str N b) = true) ∧ (N.take a).Nodup) 0 [0, 1] ?_ ?_ ?_
      · simp [hC]
      · simp
      · rintro a ⟨ha, hta, hna⟩
        simp [wN]
        intro hmx
        refine ⟨fun hlt => ⟨hlt, fun hb => ?_, fun hb => ?_⟩, fun hge => ?_⟩
        · have h3 : N.all nameB = false := all_nth_no (T := Ty.str) (p := nameB) hlt hb
          have : schemaB (nm, fs) = false := by unfold schemaB; rw [eN]; simp [h3]
          simp [↓retQ_ret, this]
        · refine AWp_loop_ind hΓ mixed tau (fun k : Nat => ⟨[.any, .ptr 0 0, .bool false, .osl 1 N.length, .any, .any, .int .i64 a, .int .i64 k] ++ List.replicate 89 .any, [.cells 32 [.str nm, .sl T73 fs], .arr .str 9 N]⟩) (fun k => a - k) (fun k => k ≤ a ∧ (∀ b, b < k → nth Ty.str N b ≠ nth Ty.str N a)) 0 [0, 1] ?_ ?_ ?_
          · simp [hC]
          · simp
          · rintro k ⟨hk, htk⟩
            simp
            refine ⟨fun hlk => ⟨by show Region.lexB .any _ = true; kernel_rfl, by omega, hlt, fun he => ?_, fun hne => ?_⟩, fun hge => ?_⟩
            · have e3 := nth_twin hlk hlt he
              have : schemaB (nm, fs) = false := by unfold schemaB; rw [eN]; simp [e3]
              simp [↓retQ_ret, this]
            · refine ⟨k + 1, ⟨by omega, fun b hb => ?_⟩, by omega, [0, 1], by simp [hC], by simp, ⟨by simp, by simp, wrap64_id (by omega)⟩, by simp⟩
              rcases Nat.lt_succ_iff_lt_or_eq.1 hb with h | h
              · exact htk b h
              · rw [h]; exact hne
            · refine ⟨a + 1, ⟨by omega, fun b hb' => ?_, ?_⟩, by omega, [0, 1], by simp [hC], by simp, ⟨by simp, by simp, wrap64_id (by omega)⟩, by simp⟩
              · rcases Nat.lt_succ_iff_lt_or_eq.1 hb' with h | h
                · exact hta b h
                · rw [h]; exact hb
              · rw [take_nth (T := .str) hlt]
                refine nodup_snoc.2 ⟨hna, fun hm => ?_⟩
                obtain ⟨b, hb1, _, hb3⟩ := nth_mem hm
                exact htk b (by omega) hb3
        · have e2 : N.all nameB = true := (all_nth (T := Ty.str)).2 fun j hj => hta j (by omega)
          have e3 : N.Nodup := by rw [List.take_of_length_le (by omega)] at hna; exact hna
          have : schemaB (nm, fs) = true := by unfold schemaB; rw [eN]; simp [h1, h2, e1, e2, e3]
          simp [↓retQ_ret, this]
end Go.Proofs.Ythojapklndjidaa
