/- GroupOk of the laws' side: the walk. -/
import Derived.Test.YtfinneebcfcdjaaGg
namespace Go.Proofs.Ytfinneebcfcdjaa
open Go Go.RowKit
set_option linter.all false
set_option pp.deepTerms true
set_option pp.maxSteps 200000
set_option maxRecDepth 100000
set_option maxHeartbeats 8000000
theorem f21_ok : FSpecOk Try.prog 21 wGrp := by
  intro x n hp
  obtain ⟨⟨kind, tmo, now, round, tops, ms⟩, u⟩ := x
  change Int at kind tmo now round; change List T50.D at tops; change List T126.D at ms
  have hp : tops.length ≤ 1048576 := hp
  refine FnOk_intro [.one .w] Try.func21 rfl ?_
  intro hw C hC
  have hΓ := CtrOk.add f77_ok rfl (CtrOk.add f76_ok rfl (CtrOk.add f75_ok rfl (CtrOk.add f78_ok rfl (CtrOk.add f65_ok rfl (CtrOk.add f16_ok rfl (noC_ok : CtrsOk Try.prog noC))))))
  refine ACode_ok (τ := tau) hΓ mixed _ _ _ ?_
  simp (maxSteps := 4000000) [Try.f21, wGrp, wIn, wSlots, wNames1, wN, wB, wTops, hp]
  intro _
  refine ⟨fun h => ?_, fun _ g1 g2 g3 g4 g5 => ?_⟩
  · have : groupB (kind, tmo, now, round, tops, ms) = false := by
      have : grpH (kind, tmo, now, round, tops, ms) = false := by
        unfold grpH; simp only
        rcases h with ((((h | h) | h) | h) | h) | h
        · simp [h]
        · simp [h]
        · simp [h]
        · simp [h]
        · simp [h]
        · simp; intros; omega
      unfold groupB; rw [this]; rfl
    simp [↓retQ_ret, ↓retQ_normal, this]
  have hH : grpH (kind, tmo, now, round, tops, ms) = true := by unfold grpH; simp [*]
  have hml : ms.length ≤ 30 := by omega
  refine AWp_loop_ind hΓ mixed tau (fun i : Nat => ⟨[.any, .ptr 0 0, .bool false, .int .i64 i] ++ List.replicate 166 .any, [.cells 60 [.int .i64 kind, .int .i64 tmo, .int .i64 now, .int .i64 round, .sl T50 tops, .sl T126 ms]]⟩) (fun i => ms.length - i) (fun i => i ≤ ms.length ∧ (∀ j, j < i → (memAt now round ms j && (List.range j).all fun k => pairB ms k j) = true)) 0 [0] ?_ ?_ ?_
  · simp [hC]
  · simp
  rintro i ⟨hi, ht⟩
  rcases hf : nth T126 ms i with ⟨nm, st, wn, bt, rd, ow, tg⟩
  change List UInt8 at nm st; change List (List UInt8) at wn; change Int at bt rd; change List T48.D at ow tg
  have hno : i < ms.length → (memAt now round ms i && (List.range i).all fun k => pairB ms k i) = false → groupB (kind, tmo, now, round, tops, ms) = false := fun h1 h2 => by
    rw [groupB_pairs]
    simp only
    rw [range_all_no (p := fun i => memAt now round ms i && (List.range i).all fun k => pairB ms k i) h1 h2]; simp
  have hstep : (memAt now round ms i && (List.range i).all fun k => pairB ms k i) = true → ∀ j, j < i + 1 → (memAt now round ms j && (List.range j).all fun k => pairB ms k j) = true := fun h1 j hj => by
    rcases Nat.lt_succ_iff_lt_or_eq.1 hj with e | e
    · exact ht j e
    · rw [e]; exact h1
  have hend : ms.length ≤ i → groupB (kind, tmo, now, round, tops, ms) = true := fun h => by
    rw [groupB_pairs]
    simp only
    rw [hH, range_all.2 fun j hj => ht j (by omega)]; rfl
  by_cases h0 : i = 0
  · subst h0
    have hm : memAt now round ms 0 = (nameB nm && (decide (st = []) || nameB st) && namesB wn 20 && inB bt 0 now && inB rd 0 round && slotsB ow && slotsB tg) := by
      unfold memAt; rw [hf]; simp [memB]
    simp (maxSteps := 4000000) [wIn, wSlots, wNames1, wN, wB, sle_eq, hf]
    repeat' (first | with_reducible refine And.intro ?_ ?_ | with_reducible intro _ | (show ¬ _; intro _))
    all_goals first
      | (show Region.lexB .any _ = true; kernel_rfl)
      | assumption
      | omega
      | (clear hΓ hno hstep hend ht; grind)
      | (have h : (memAt now round ms 0 && (List.range 0).all fun k => pairB ms k 0) = false := by (clear hΓ hno hstep hend ht; rw [hm]; simp; grind)
         simp [↓retQ_ret, ↓retQ_normal, hno (by assumption) h]; done)
      | (simp [↓retQ_ret, ↓retQ_normal, hend (by first | omega | simp [*])]; done)
      | (have hmT : memAt now round ms 0 = true := by (clear hΓ hno hstep hend ht; rw [hm]; grind)
         refine AWp_loop_ind hΓ mixed tau (fun k : Nat => ⟨[.any, .ptr 0 0, .bool false, .int .i64 0, .ptr 1 0, .int .i64 0] ++ List.replicate 164 .any, [.cells 60 [.int .i64 kind, .int .i64 tmo, .int .i64 now, .int .i64 round, .sl T50 tops, .sl T126 ms], .cells 126 [.str nm, .str st, .sl .str wn, .int .i64 bt, .int .i64 rd, .sl T48 ow, .sl T48 tg]]⟩) (fun k => 0) (fun k => k = 0) 0 [0, 1] ?_ ?_ ?_
         · simp [hC]
         · simp
         rintro k rfl
         simp
         refine ⟨1, ⟨by omega, by simpa using hstep (by rw [hmT]; rfl)⟩, by omega, [0], by simp [hC], by decide, ⟨rfl, by decide⟩, by simp [leH, leO]⟩)
      | trace_state
  · have h1 : 0 < i := by omega
    have w1 : IntKind.i64.wrap ((i : Int) - 1) = ((i - 1 : Nat) : Int) := by rw [wrap64_id (by omega)]; omega
    have w2 : IntKind.i64.wrap ((i : Int) + 1) = i + 1 := wrap64_id (by omega)
    rcases hg : nth T126 ms (i - 1) with ⟨nm', st', wn', bt', rd', ow', tg'⟩
    change List UInt8 at nm' st'; change List (List UInt8) at wn'; change Int at bt' rd'; change List T48.D at ow' tg'
    have hm : memAt now round ms i = (nameB nm && (decide (st = []) || nameB st) && namesB wn 20 && inB bt 0 now && inB rd 0 round && slotsB ow && slotsB tg && sLt nm' nm) := by
      unfold memAt; rw [hf, hg]; simp [memB, h0]
    simp (maxSteps := 4000000) [wIn, wSlots, wNames1, wN, wB, sle_eq, hf, w1, h1, hg, hi, w2]
    repeat' (first | with_reducible refine And.intro ?_ ?_ | with_reducible intro _ | (show ¬ _; intro _))
    all_goals first
      | (show Region.lexB .any _ = true; kernel_rfl)
      | assumption
      | omega
      | (clear hΓ hno hstep hend ht; grind)
      | (have h : (memAt now round ms i && (List.range i).all fun k => pairB ms k i) = false := by
           have : memAt now round ms i = false := by (clear hΓ hno hstep hend ht; rw [hm]; grind)
           rw [this]; rfl
         simp [↓retQ_ret, ↓retQ_normal, hno (by assumption) h]; done)
      | (simp [↓retQ_ret, ↓retQ_normal, hend (by first | omega | simp [*])]; done)
      | (have hmT : memAt now round ms i = true := by (clear hΓ hno hstep hend ht; rw [hm]; grind)
         have hil : i < ms.length := by assumption
         clear hg
         have hpno : ∀ k, k < i → pairB ms k i = false → groupB (kind, tmo, now, round, tops, ms) = false := fun k hk h => hno hil (by
           rw [range_all_no (p := fun k => pairB ms k i) hk h, Bool.and_false])
         refine AWp_loop_ind hΓ mixed tau (fun k : Nat => ⟨[.any, .ptr 0 0, .bool false, .int .i64 i, .ptr 1 0, .int .i64 k] ++ List.replicate 164 .any, [.cells 60 [.int .i64 kind, .int .i64 tmo, .int .i64 now, .int .i64 round, .sl T50 tops, .sl T126 ms], .cells 126 [.str nm, .str st, .sl .str wn, .int .i64 bt, .int .i64 rd, .sl T48 ow, .sl T48 tg]]⟩) (fun k => i - k) (fun k => k ≤ i ∧ ∀ j, j < k → pairB ms j i = true) 0 [0, 1] ?_ ?_ ?_
         · simp [hC]
         · simp
         rintro k ⟨hk, hkt⟩
         have w3 : IntKind.i64.wrap ((k : Int) + 1) = k + 1 := wrap64_id (by omega)
         rcases hg : nth T126 ms k with ⟨nm2, st2, wn2, bt2, rd2, ow2, tg2⟩
         change List UInt8 at nm2 st2; change List (List UInt8) at wn2; change Int at bt2 rd2; change List T48.D at ow2 tg2
         have hpb : pairB ms k i = ((decide (st = []) || decide (st2 ≠ st)) && ow.all (fun x => decide (x ∉ ow2)) && tg.all (fun x => decide (x ∉ tg2))) := by unfold pairB; rw [hf, hg]
         simp (maxSteps := 4000000) [wIn, hg, hk, w3, w2]
         repeat' (first | with_reducible refine And.intro ?_ ?_ | with_reducible intro _ | (show ¬ _; intro _))
         all_goals first
           | (show Region.lexB .any _ = true; kernel_rfl)
           | assumption
           | omega
           | (have h : pairB ms k i = false := by (clear hΓ hno hstep hend ht hpno; rw [hpb]; grind)
              simp [↓retQ_ret, ↓retQ_normal, hpno k (by assumption) h]; done)
           | (have hki : i ≤ k := by omega
              refine ⟨i + 1, ⟨by omega, by simpa using hstep (by rw [hmT, Bool.true_and, range_all]; exact fun j hj => hkt j (by omega))⟩, by omega, [0], by simp [hC], by decide, ⟨rfl, by simp [w2]⟩, by simp [leH, leO]⟩)
           | (have hsd : st = [] ∨ st2 ≠ st := by (clear hΓ hno hstep hend ht hpno; grind)
              have hki : k < i := by assumption
              refine AWp_loop_ind hΓ mixed tau (fun n : Nat => ⟨[.any, .ptr 0 0, .bool false, .int .i64 i, .ptr 1 0, .int .i64 k, .ptr 2 0, .int .i64 n] ++ List.replicate 162 .any, [.cells 60 [.int .i64 kind, .int .i64 tmo, .int .i64 now, .int .i64 round, .sl T50 tops, .sl T126 ms], .cells 126 [.str nm, .str st, .sl .str wn, .int .i64 bt, .int .i64 rd, .sl T48 ow, .sl T48 tg], .cells 126 [.str nm2, .str st2, .sl .str wn2, .int .i64 bt2, .int .i64 rd2, .sl T48 ow2, .sl T48 tg2]]⟩) (fun n => ow.length - n) (fun n => n ≤ ow.length ∧ ∀ j, j < n → nth T48 ow j ∉ ow2) 0 [0, 1, 2] ?_ ?_ ?_
              · simp [hC]
              · simp
              rintro n1 ⟨hn, hnt⟩
              rcases hx : nth T48 ow n1 with ⟨xa, xb⟩
              change List UInt8 at xa; change Int at xb
              have hall : ow.length ≤ n1 → ow.all (fun x => decide (x ∉ ow2)) = true := fun h => by
                rw [List.all_eq_true]
                intro x hx
                obtain ⟨j, hj, e⟩ := List.mem_iff_getElem.1 hx
                have := hnt j (by omega)
                unfold nth at this
                rw [List.getD_eq_getElem?_getD, List.getElem?_eq_getElem hj] at this
                simpa [← e] using this
              have hany : n1 < ow.length → (xa, xb) ∈ ow2 → ow.all (fun x => decide (x ∉ ow2)) = false := fun h hm => by
                rw [List.all_eq_false]
                refine ⟨(xa, xb), ?_, by simpa using hm⟩
                rw [← hx]
                unfold nth
                rw [List.getD_eq_getElem?_getD, List.getElem?_eq_getElem h]
                exact List.getElem_mem h
              simp (maxSteps := 4000000) [wIn, hx, hn, w3, w2]
              repeat' (first | with_reducible refine And.intro ?_ ?_ | with_reducible intro _ | (show ¬ _; intro _))
              all_goals first
                | (show Region.lexB .any _ = true; kernel_rfl)
                | assumption
                | omega
                | (have h : pairB ms k i = false := by (rw [hpb, hany (by assumption) (by assumption)]; simp)
                   simp [↓retQ_ret, ↓retQ_normal, hpno k hki h]; done)
                | (refine ⟨n1 + 1, ⟨by omega, fun j hj => ?_⟩, by omega, [0, 1, 2], by simp [hC], by decide, ⟨rfl, rfl, rfl, by rw [wrap64_id (by omega)]; rfl⟩, by simp [leH, leO]⟩
                   rcases Nat.lt_succ_iff_lt_or_eq.1 hj with e | e
                   · exact hnt j e
                   · rw [e, hx]; assumption)
                | (have hall1 := hall (by assumption)
                   clear hall hany hnt hx
                   have hsd : st = [] ∨ st2 ≠ st := by (clear hΓ hno hstep hend ht hpno; grind)
                   have hki : k < i := by assumption
                   refine AWp_loop_ind hΓ mixed tau (fun n : Nat => ⟨[.any, .ptr 0 0, .bool false, .int .i64 i, .ptr 1 0, .int .i64 k, .ptr 2 0, .any, .int .i64 n] ++ List.replicate 161 .any, [.cells 60 [.int .i64 kind, .int .i64 tmo, .int .i64 now, .int .i64 round, .sl T50 tops, .sl T126 ms], .cells 126 [.str nm, .str st, .sl .str wn, .int .i64 bt, .int .i64 rd, .sl T48 ow, .sl T48 tg], .cells 126 [.str nm2, .str st2, .sl .str wn2, .int .i64 bt2, .int .i64 rd2, .sl T48 ow2, .sl T48 tg2]]⟩) (fun n => tg.length - n) (fun n => n ≤ tg.length ∧ ∀ j, j < n → nth T48 tg j ∉ tg2) 0 [0, 1, 2] ?_ ?_ ?_
                   · simp [hC]
                   · simp
                   rintro n2 ⟨hn, hnt⟩
                   rcases hx : nth T48 tg n2 with ⟨xa, xb⟩
                   change List UInt8 at xa; change Int at xb
                   have hall : tg.length ≤ n2 → tg.all (fun x => decide (x ∉ tg2)) = true := fun h => by
                     rw [List.all_eq_true]
                     intro x hx
                     obtain ⟨j, hj, e⟩ := List.mem_iff_getElem.1 hx
                     have := hnt j (by omega)
                     unfold nth at this
                     rw [List.getD_eq_getElem?_getD, List.getElem?_eq_getElem hj] at this
                     simpa [← e] using this
                   have hany : n2 < tg.length → (xa, xb) ∈ tg2 → tg.all (fun x => decide (x ∉ tg2)) = false := fun h hm => by
                     rw [List.all_eq_false]
                     refine ⟨(xa, xb), ?_, by simpa using hm⟩
                     rw [← hx]
                     unfold nth
                     rw [List.getD_eq_getElem?_getD, List.getElem?_eq_getElem h]
                     exact List.getElem_mem h
                   simp (maxSteps := 4000000) [wIn, hx, hn, w3, w2]
                   repeat' (first | with_reducible refine And.intro ?_ ?_ | with_reducible intro _ | (show ¬ _; intro _))
                   all_goals first
                     | (show Region.lexB .any _ = true; kernel_rfl)
                     | assumption
                     | omega
                     | (have h : pairB ms k i = false := by (rw [hpb, hany (by assumption) (by assumption)]; simp)
                        simp [↓retQ_ret, ↓retQ_normal, hpno k hki h]; done)
                     | (refine ⟨n2 + 1, ⟨by omega, fun j hj => ?_⟩, by omega, [0, 1, 2], by simp [hC], by decide, ⟨rfl, rfl, rfl, by rw [wrap64_id (by omega)]; rfl⟩, by simp [leH, leO]⟩
                        rcases Nat.lt_succ_iff_lt_or_eq.1 hj with e | e
                        · exact hnt j e
                        · rw [e, hx]; assumption)
                     | (have h : pairB ms k i = true := by
                          rw [hpb, hall1, hall (by assumption)]; simpa using hsd
                        refine ⟨k + 1, ⟨by omega, fun j hj => ?_⟩, by omega, [0, 1], by simp [hC], by decide, ⟨rfl, rfl, by first | rfl | simp⟩, by simp [leH, leO]⟩
                        rcases Nat.lt_succ_iff_lt_or_eq.1 hj with e | e
                        · exact hkt j e
                        · rw [e]; exact h)
                     | trace_state)
                | trace_state))
      | trace_state
end Go.Proofs.Ytfinneebcfcdjaa
