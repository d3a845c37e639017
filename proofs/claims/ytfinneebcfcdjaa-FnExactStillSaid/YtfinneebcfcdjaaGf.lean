/- GroupOk of the program. -/
import Derived.Test.YtfinneebcfcdjaaGe
namespace Go.Proofs.Ytfinneebcfcdjaa
open Go Go.RowKit
set_option linter.all false
set_option pp.deepTerms true
set_option pp.maxSteps 200000
set_option maxRecDepth 100000
set_option maxHeartbeats 8000000
theorem f23_ok : FSpecOk Try.prog 23 wGrp := by
  intro x n hp
  obtain ⟨⟨kind, tmo, now, round, tops, ms⟩, u⟩ := x
  change Int at kind tmo now round; change List T50.D at tops; change List T126.D at ms
  have hp : tops.length ≤ 1048576 := hp
  refine FnOk_intro [.one .w] Try.func23 rfl ?_
  intro hw C hC
  have hΓ := CtrOk.add f86_ok rfl (CtrOk.add f85_ok' rfl (CtrOk.add (f84_ok 20) rfl (CtrOk.add f83_ok rfl (CtrOk.add f59_ok rfl (CtrOk.add f81_ok rfl (CtrOk.add f82_ok rfl (CtrOk.add f70_ok rfl (noC_ok : CtrsOk Try.prog noC))))))))
  refine ACode_ok (τ := tau) hΓ mixed _ _ _ ?_
  simp (maxSteps := 4000000) [Try.f23, wGrp, wApart, wSlots, wNames, wN, wB, wTime, wOff, wTops, hp]
  intro _
  refine ⟨fun h => ?_, fun _ g1 g2 g3 g4 g5 g6 => ?_⟩
  · have : groupB (kind, tmo, now, round, tops, ms) = false := by
      have : grpH (kind, tmo, now, round, tops, ms) = false := by
        unfold grpH; simp only
        rcases h with ((((h | h) | h) | h) | h) | h
        · simp [h]
        · simp [h]
        · simp [h]
        · simp [h]
        · simp [h]
        · simp; intros; omega
      unfold groupB; rw [this]; rfl
    simp [↓retQ_ret, ↓retQ_normal, this]
  have hH : grpH (kind, tmo, now, round, tops, ms) = true := by unfold grpH; simp [*]
  have hml : ms.length ≤ 30 := by omega
  refine AWp_nil 3 (.sl T48) 43 rfl ?_
  refine AWp_nil 4 (.sl T48) 43 rfl ?_
  refine AWp_loop_ind hΓ mixed tau (fun x : Nat × List (List UInt8) => ⟨[.any, .ptr 0 0, .bool false, .osl 2 x.1, .osl 3 x.1, .omap 1] ++ List.replicate 38 .any ++ [.sl T126 ms, .int .i64 ms.length, .int .i64 x.1] ++ List.replicate 95 .any, [.cells 60 [.int .i64 kind, .int .i64 tmo, .int .i64 now, .int .i64 round, .sl T50 tops, .sl T126 ms], .map .str .bool (setM (K := .str) x.2), .arr (.sl T48) 43 ((ms.take x.1).map mOwns), .arr (.sl T48) 43 ((ms.take x.1).map mTarg)]⟩) (fun x => ms.length - x.1) (fun x => x.1 ≤ ms.length ∧ (∀ j, j < x.1 → memAt now round ms j = true ∧ statAt ms j = true) ∧ x.2.Nodup ∧ ∀ s, s ∈ x.2 ↔ ∃ j, j < x.1 ∧ (nth T126 ms j).2.1 = s) (0, []) [0, 1, 2, 3] ?_ ?_ ?_
  · simp [hC, setM]
  · simp
  rintro ⟨i, S⟩ ⟨hi, ht, hn, hS⟩
  simp only at hi ht hn hS
  rcases hf : nth T126 ms i with ⟨nm, st, wn, bt, rd, ow, tg⟩
  change List UInt8 at nm st; change List (List UInt8) at wn; change Int at bt rd; change List T48.D at ow tg
  have hmg : mget (V := .bool) (setM (K := .str) S) st false = decide (st ∈ S) := by
    by_cases h : st ∈ S
    · rw [(mget_set (K := .str) (fun a b => keq_str)).2 h]; simp [h]
    · rw [(mget_set_no (K := .str) (fun a b => keq_str)).2 h]; simp [h]
  have hst : statAt ms i = (decide (st = []) || !decide (st ∈ S)) := by
    unfold statAt
    rw [hf]
    simp only
    congr 1
    by_cases h : st ∈ S
    · obtain ⟨j, hj, e⟩ := (hS st).1 h
      rw [range_all_no (j := j) hj (by simp [e])]; simp [h]
    · rw [range_all.2 fun j hj => by
        simp only [decide_eq_true_eq]
        exact fun e => h ((hS st).2 ⟨j, hj, e⟩)]
      simp [h]
  have hput : ∃ S', mput (V := .bool) (setM (K := .str) S) st true = setM (K := .str) S' ∧ S'.Nodup ∧ ∀ s, s ∈ S' ↔ s ∈ S ∨ s = st := by
    by_cases h : st ∈ S
    · exact ⟨S, mput_mem (K := .str) (fun a b => keq_str) h hn, hn, fun s => ⟨.inl, fun e => by rcases e with e | e; exact e; rw [e]; exact h⟩⟩
    · exact ⟨S ++ [st], mput_set (K := .str) (fun a b => keq_str) h, nodup_snoc.2 ⟨hn, h⟩, fun s => by simp⟩
  obtain ⟨S', hp1, hp2, hp3⟩ := hput
  have hS' : ∀ s, s ∈ S' ↔ ∃ j, j < i + 1 ∧ (nth T126 ms j).2.1 = s := fun s => by
    rw [hp3, hS]
    constructor
    · rintro (⟨j, hj, e⟩ | e)
      · exact ⟨j, by omega, e⟩
      · exact ⟨i, by omega, by rw [hf, e]⟩
    · rintro ⟨j, hj, e⟩
      rcases Nat.lt_succ_iff_lt_or_eq.1 hj with h | h
      · exact .inl ⟨j, h, e⟩
      · right; rw [h, hf] at e; exact e.symm
  have hno : i < ms.length → (memAt now round ms i && statAt ms i) = false → groupB (kind, tmo, now, round, tops, ms) = false := fun h1 h2 => by
    unfold groupB
    simp only
    rw [range_all_no (p := fun i => memAt now round ms i && statAt ms i) h1 h2]; simp
  have hstep : memAt now round ms i = true → statAt ms i = true → ∀ j, j < i + 1 → memAt now round ms j = true ∧ statAt ms j = true := fun h1 h2 j hj => by
    rcases Nat.lt_succ_iff_lt_or_eq.1 hj with e | e
    · exact ht j e
    · rw [e]; exact ⟨h1, h2⟩
  have hend : ms.length ≤ i → groupB (kind, tmo, now, round, tops, ms) = (decide ((ms.map mOwns).flatten).Nodup && decide ((ms.map mTarg).flatten).Nodup) := fun h => by
    unfold groupB
    simp only
    rw [hH, range_all.2 fun j hj => by have := ht j (by omega); rw [this.1, this.2]; rfl]; rfl
  have ho : i < ms.length → (ms.map mOwns).take (i + 1) = (ms.map mOwns).take i ++ [ow] ∧ (ms.map mTarg).take (i + 1) = (ms.map mTarg).take i ++ [tg] := fun h => by
    rw [← List.map_take, ← List.map_take, ← List.map_take, ← List.map_take, take_nth (T := T126) h, List.map_append, List.map_append, hf]
    exact ⟨rfl, rfl⟩
  by_cases h0 : i = 0
  · subst h0
    have hm : memAt now round ms 0 = (nameB nm && (decide (st = []) || nameB st) && namesB wn 20 && inB bt 0 now && inB rd 0 round && slotsB ow && slotsB tg) := by
      unfold memAt; rw [hf]; simp [memB]
    simp (maxSteps := 4000000) [wApart, wSlots, wNames, wN, wB, sle_eq, hf, hmg]
    repeat' (first | with_reducible refine And.intro ?_ ?_ | intro _)
    all_goals first
      | (show Region.lexB .any _ = true; kernel_rfl)
      | assumption
      | omega
      | (clear hΓ hno hstep hend ho hS' hS ht hp3; simp only [hm, hst] at *; grind)
      | (have h : (memAt now round ms 0 && statAt ms 0) = false := by (clear hΓ hno hstep hend ho hS' hS ht hp3; rw [hm, hst]; grind)
         simp [↓retQ_ret, ↓retQ_normal, hno (by assumption) h]; done)
      | (have hmT : memAt now round ms 0 = true := by (clear hΓ hno hstep hend ho hS' hS ht hp3; rw [hm]; grind)
         have hsT : statAt ms 0 = true := by (clear hΓ hno hstep hend ho hS' hS ht hp3; rw [hst]; grind)
         refine ⟨1, S', ⟨by omega, hstep hmT hsT, hp2, hS'⟩, by omega, [0, 1, 6, 8], by simp [hC], by decide, ⟨rfl, ⟨rfl, rfl⟩, ⟨rfl, rfl⟩, rfl, by first | rfl | decide⟩, ?_⟩
         rw [hp1, show (ms.map mOwns).take 1 = [ow] from by have e := (ho (by assumption)).1; simpa using e, show (ms.map mTarg).take 1 = [tg] from by have e := (ho (by assumption)).2; simpa using e]
         simp [leH, leO]; done)
      | (have hle : ms.length ≤ 0 := by first | omega | simp [*]
         rw [hend hle]
         have e1 : (ms.map mOwns).take 0 = ms.map mOwns := List.take_of_length_le (by simpa using hle)
         have e2 : (ms.map mTarg).take 0 = ms.map mTarg := List.take_of_length_le (by simpa using hle)
         first
           | (simp [↓retQ_ret, ↓retQ_normal, e1, e2]; done)
           | (have e3 : ms = [] := by assumption
              subst e3; simp [↓retQ_ret, ↓retQ_normal]; done)
           | (trace "END"; trace_state))
      | trace_state
  · have h1 : 0 < i := by omega
    have w1 : IntKind.i64.wrap ((i : Int) - 1) = ((i - 1 : Nat) : Int) := by rw [wrap64_id (by omega)]; omega
    have w2 : IntKind.i64.wrap ((i : Int) + 1) = i + 1 := wrap64_id (by omega)
    rcases hg : nth T126 ms (i - 1) with ⟨nm', st', wn', bt', rd', ow', tg'⟩
    change List UInt8 at nm' st'; change List (List UInt8) at wn'; change Int at bt' rd'; change List T48.D at ow' tg'
    have hm : memAt now round ms i = (nameB nm && (decide (st = []) || nameB st) && namesB wn 20 && inB bt 0 now && inB rd 0 round && slotsB ow && slotsB tg && sLt nm' nm) := by
      unfold memAt; rw [hf, hg]; simp [memB, h0]
    simp (maxSteps := 4000000) [wApart, wSlots, wNames, wN, wB, sle_eq, hf, w1, h1, hg, hi, hmg, w2]
    repeat' (first | with_reducible refine And.intro ?_ ?_ | intro _)
    all_goals first
      | (show Region.lexB .any _ = true; kernel_rfl)
      | assumption
      | omega
      | (clear hΓ hno hstep hend ho hS' hS ht hp3; simp only [hm, hst] at *; grind)
      | (have h : (memAt now round ms i && statAt ms i) = false := by (clear hΓ hno hstep hend ho hS' hS ht hp3; rw [hm, hst]; grind)
         simp [↓retQ_ret, ↓retQ_normal, hno (by assumption) h]; done)
      | (have hmT : memAt now round ms i = true := by (clear hΓ hno hstep hend ho hS' hS ht hp3; rw [hm]; grind)
         have hsT : statAt ms i = true := by (clear hΓ hno hstep hend ho hS' hS ht hp3; rw [hst]; grind)
         refine ⟨(i + 1), S', ⟨by omega, hstep hmT hsT, hp2, hS'⟩, by omega, [0, 1, 6, 8], by simp [hC], by decide, ⟨rfl, ⟨rfl, rfl⟩, ⟨rfl, rfl⟩, rfl, by first | rfl | decide⟩, ?_⟩
         rw [hp1, (ho (by assumption)).1, (ho (by assumption)).2, List.take_take, List.take_take, Nat.min_self]
         simp [leH, leO]; done)
      | (have hle : ms.length ≤ i := by first | omega | simp [*]
         rw [hend hle]
         have e1 : (ms.map mOwns).take i = ms.map mOwns := List.take_of_length_le (by simpa using hle)
         have e2 : (ms.map mTarg).take i = ms.map mTarg := List.take_of_length_le (by simpa using hle)
         first
           | (simp [↓retQ_ret, ↓retQ_normal, e1, e2]; done)
           | (have e3 : ms = [] := by assumption
              subst e3; simp [↓retQ_ret, ↓retQ_normal]; done)
           | (trace "END"; trace_state))
      | trace_state
end Go.Proofs.Ytfinneebcfcdjaa
