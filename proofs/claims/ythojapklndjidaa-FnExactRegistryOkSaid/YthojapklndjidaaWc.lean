/- Schemas: the contracts of the modes. -/
import Derived.Test.YthojapklndjidaaWa
namespace Go.Proofs.Ythojapklndjidaa
open Go Go.RowKit
set_option linter.all false
set_option pp.deepTerms true
set_option pp.maxSteps 200000
/-- A piece of code, then what is left of its state, then the rest. -/
theorem AWp_cut' {P : Program} {C : Ctx} {Γ : Ctrs} (hΓ : CtrsOk P Γ) (hm : P.follows .mixedOrders = true) (τ : TypeId → Option Ty) {x y : Code} {S : St} {Q : AExit → St → Prop} (S1 : St) (F : Prop) (ps : List Nat) (hpre : ∀ i, i < C.L0.length → ps[i]? = some i)
    (h1 : ACode P C Γ τ x S (thenQ (fun S' => F ∧ St.le ps S' S1) Q)) (h2 : F → AWp P C y S1 Q) : AWp P C (.seq x y) S Q := by
  refine AWp_seq ((ACode_ok hΓ hm _ _ _ h1).mono fun e S' hq => ?_)
  cases e with
  | normal => exact AWp_sub ps hpre hq.2 (h2 hq.1)
  | exit i => exact hq
  | ret => exact hq

def modeB (m : Int) : Bool := decide (m = 0) || decide (m = 1) || decide (m = 2) || decide (m = 4) || decide (m = 8) || decide (m = 9) || decide (m = 10) || decide (m = 12)
def wMo : Spec [(false, .int .i64)] := ⟨fun _ => True, fun x _ => .bool (modeB x.1), fun _ => []⟩
def idxI (l : List Int) (q : Int) : Int := match (List.range l.length).find? (fun j => decide (nth (.int .i64) l j = q)) with
  | some j => j
  | none => -1
theorem nth_getI {l : List Int} {i : Nat} (h : i < l.length) : nth (.int .i64) l i = l[i] := by
  unfold nth
  rw [List.getD_eq_getElem?_getD, List.getElem?_eq_getElem h]; rfl
theorem mem_nthI {l : List Int} {x : Int} : x ∈ l ↔ ∃ i, i < l.length ∧ nth (.int .i64) l i = x := by
  rw [List.mem_iff_getElem]
  constructor
  · rintro ⟨i, hi, rfl⟩; exact ⟨i, hi, nth_getI hi⟩
  · rintro ⟨i, hi, h⟩; exact ⟨i, hi, by rw [← nth_getI hi]; exact h⟩
theorem idxI_at {l : List Int} {q : Int} {i : Nat} (hi : i < l.length) (h : nth (.int .i64) l i = q) (hb : ∀ j, j < i → nth (.int .i64) l j ≠ q) : idxI l q = i := by
  unfold idxI
  rw [find_range hi (by simp [h]) fun j hj => by simp [hb j hj]]
theorem idxI_no {l : List Int} {q : Int} (hb : ∀ j, j < l.length → nth (.int .i64) l j ≠ q) : idxI l q = -1 := by
  unfold idxI
  rw [find_range_none fun j hj => by simp [hb j hj]]
theorem idxI_mem {l : List Int} {q : Int} : 0 ≤ idxI l q ↔ q ∈ l := by
  constructor
  · intro h
    unfold idxI at h
    cases hf : (List.range l.length).find? (fun j => decide (nth (.int .i64) l j = q)) with
    | none => rw [hf] at h; simp at h
    | some j =>
      have h1 := List.mem_of_find?_eq_some hf
      have h2 := List.find?_some hf
      simp only [List.mem_range] at h1
      exact mem_nthI.2 ⟨j, h1, by simpa using h2⟩
  · intro h
    obtain ⟨i, hi, he⟩ := mem_nthI.1 h
    unfold idxI
    cases hf : (List.range l.length).find? (fun j => decide (nth (.int .i64) l j = q)) with
    | some j => simp
    | none =>
      rw [List.find?_eq_none] at hf
      have := hf i (by simpa using hi)
      simp [he] at this
def wHasI : Spec [(false, .sl (.int .i64)), (false, .int .i64)] := ⟨fun _ => True, fun x _ => .bool (decide (x.2.1 ∈ (x.1 : List Int))), fun _ => []⟩
def wIdxI : Spec [(false, .sl (.int .i64)), (false, .int .i64)] := ⟨fun _ => True, fun x _ => .int .i64 (idxI x.1 x.2.1), fun _ => []⟩
set_option maxHeartbeats 4000000 in
set_option maxRecDepth 100000 in
theorem f118_ok : FSpecOk Try.prog 118 wIdxI := by
  intro x n hp
  obtain ⟨l, q, u⟩ := x; change List Int at l; change Int at q
  refine FnOk_intro [.one .w] Try.func118 rfl ?_
  intro hw C hC
  have hΓ := (noC_ok : CtrsOk Try.prog noC)
  refine ACode_ok (τ := tau) hΓ mixed _ _ _ ?_
  simp [Try.f118, wIdxI]
  intro hmx
  refine AWp_loop_ind hΓ mixed tau (fun i : Nat => ⟨[.sl (.int .i64) l, .int .i64 q, .any, .any, .any, .any, .sl (.int .i64) l, .int .i64 l.length, .int .i64 i] ++ List.replicate 10 .any, []⟩) (fun i => l.length - i) (fun i => i ≤ l.length ∧ ∀ j, j < i → nth (.int .i64) l j ≠ q) 0 [] ?_ ?_ ?_
  · simp [hC]
  · simp
  · rintro i ⟨hi, ht⟩
    simp
    refine ⟨fun hlt => ⟨hlt, fun he => ?_, fun hne => ?_⟩, fun hge => ?_⟩
    · have := idxI_at hlt he.symm ht
      simp [↓retQ_ret, this]
    · refine ⟨i + 1, ⟨by omega, fun j hj => ?_⟩, by omega, [], by simp [hC], by simp, wrap64_id (by omega), by simp⟩
      rcases Nat.lt_succ_iff_lt_or_eq.1 hj with h | h
      · exact ht j h
      · rw [h]; exact fun e => hne e.symm
    · have := idxI_no (l := l) (q := q) fun j hj => ht j (by omega)
      simp [↓retQ_ret, this]
set_option maxHeartbeats 4000000 in
set_option maxRecDepth 100000 in
theorem f100_ok : FSpecOk Try.prog 100 wHasI := by
  intro x n hp
  obtain ⟨l, q, u⟩ := x; change List Int at l; change Int at q
  refine FnOk_intro [.one .w] Try.func100 rfl ?_
  intro hw C hC
  have hΓ := CtrOk.add f118_ok rfl (noC_ok : CtrsOk Try.prog noC)
  refine ACode_ok (τ := tau) hΓ mixed _ _ _ ?_
  simp [Try.f100, wHasI, wIdxI]
  simp [↓retQ_ret, idxI_mem]
set_option maxHeartbeats 4000000 in
set_option maxRecDepth 100000 in
theorem f67_ok : FSpecOk Try.prog 67 wMo := by
  intro x n hp
  obtain ⟨m, u⟩ := x; change Int at m
  refine FnOk_intro [.one .w] Try.func67 rfl ?_
  intro hw C hC
  have hΓ := CtrOk.add f100_ok rfl (noC_ok : CtrsOk Try.prog noC)
  refine ACode_ok (τ := tau) hΓ mixed _ _ _ ?_
  simp [Try.f67, wHasI, wMo]
  simp [↓retQ_ret, modeB, Bool.or_assoc]
set_option maxHeartbeats 4000000 in
set_option maxRecDepth 100000 in
theorem f60_ok : FSpecOk Try.prog 60 wMo := by
  intro x n hp
  obtain ⟨m, u⟩ := x; change Int at m
  refine FnOk_intro [.one .w] Try.func60 rfl ?_
  intro hw C hC
  have hΓ := (noC_ok : CtrsOk Try.prog noC)
  refine ACode_ok (τ := tau) hΓ mixed _ _ _ ?_
  simp [Try.f60, wMo]
  have hmod : 0 ≤ m → m.tmod 8 = m % 8 := fun h => Int.tmod_eq_emod_of_nonneg h
  have ht : 0 ≤ m → 0 ≤ m.tmod 8 ∧ m.tmod 8 < 8 := fun h => by rw [hmod h]; omega
  repeat' (first | intro _ | with_reducible refine And.intro ?_ ?_)
  all_goals first
    | omega
    | skip
  simp [↓retQ_ret]
  by_cases h0 : 0 ≤ m
  · rw [hmod h0, Bool.eq_iff_iff]; simp [modeB, h0]; omega
  · have : modeB m = false := by simp [modeB]; omega
    rw [this]; simp [h0]
end Go.Proofs.Ythojapklndjidaa
