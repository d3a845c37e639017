/- Queries: the contract of windowOk. -/
import Derived.Test.YtfinneebcfcdjaaNb
import Derived.Test.YtfinneebcfcdjaaNc
namespace Go.Proofs.Ytfinneebcfcdjaa
open Go Go.RowKit
set_option linter.all false
set_option pp.deepTerms true
set_option pp.maxSteps 200000
/-- A piece of code, then what is left of its state, then the rest. -/
theorem AWp_cut' {P : Program} {C : Ctx} {Γ : Ctrs} (hΓ : CtrsOk P Γ) (hm : P.follows .mixedOrders = true) (τ : TypeId → Option Ty) {x y : Code} {S : St} {Q : AExit → St → Prop} (S1 : St) (F : Prop) (ps : List Nat) (hpre : ∀ i, i < C.L0.length → ps[i]? = some i)
    (h1 : ACode P C Γ τ x S (thenQ (fun S' => F ∧ St.le ps S' S1) Q)) (h2 : F → AWp P C y S1 Q) : AWp P C (.seq x y) S Q := by
  refine AWp_seq ((ACode_ok hΓ hm _ _ _ h1).mono fun e S' hq => ?_)
  cases e with
  | normal => exact AWp_sub ps hpre hq.2 (h2 hq.1)
  | exit i => exact hq
  | ret => exact hq

def windowB (win size every : Int) (ng : Nat) : Bool :=
  if win = 0 then decide (size = 0) && decide (every = 0)
  else if win = 1 ∨ win = 3 then inB size 1 1000000000000 && decide (every = 0) && decide (0 < ng)
  else if win = 2 then inB size 1 1000000000000 && inB every 1 size && decide (size ≤ 20 * every) && decide (0 < ng)
  else false
def getB (ng : Nat) (g : T144.D) : Bool := inB g.1 0 4 && (decide (g.1 = 0) == decide (ng = 0)) && nameB g.2.2 && (if g.1 = 1 then decide (g.2.1 = []) else stepsB g.2.1)
def Q1 (q : T74.D) : Prop := nameB q.1 = true ∧ (q.2.1 = [] ∨ nameB q.2.1 = true) ∧ (q.2.2.2.2.1 = [] ∨ nameB q.2.2.2.2.1 = true) ∧ (q.2.1 = [] ∨ q.2.2.2.2.1 = [])
def Q2 (q : T74.D) : Prop := ((¬ q.2.1 = [] ∨ ¬ q.2.2.2.2.1 = []) ↔ ¬ q.2.2.2.1 = []) ∧ (q.2.2.2.1 = [] ∨ nameB q.2.2.2.1 = true) ∧ inB q.2.2.1 0 1000000000000 = true ∧ (¬ q.2.1 = [] ∨ q.2.2.1 = 0)
def Q3 (q : T74.D) : Prop := (q.2.2.2.2.2.1 = [] ∨ stepsB q.2.2.2.2.2.1 = true) ∧ (q.2.2.2.2.2.2.1.length : Int) ≤ 12 ∧ (q.2.2.2.2.2.2.1 : SL).Nodup
def Q4 (q : T74.D) : Prop := (q.2.2.2.2.2.2.1 : SL).all nameB = true
def Q5 (q : T74.D) : Prop := windowB q.2.2.2.2.2.2.2.1 q.2.2.2.2.2.2.2.2.1 q.2.2.2.2.2.2.2.2.2.1 q.2.2.2.2.2.2.1.length = true
def Q6 (q : T74.D) : Prop := inB q.2.2.2.2.2.2.2.2.2.2.length 1 8 = true
def Q7 (q : T74.D) : Prop := q.2.2.2.2.2.2.2.2.2.2.all (getB q.2.2.2.2.2.2.1.length) = true
noncomputable def queryB (q : T74.D) : Bool := @decide (Q1 q ∧ Q2 q ∧ Q3 q ∧ Q4 q ∧ Q5 q ∧ Q6 q ∧ Q7 q) (Classical.propDecidable _)
theorem queryB_yes {q : T74.D} (h : Q1 q ∧ Q2 q ∧ Q3 q ∧ Q4 q ∧ Q5 q ∧ Q6 q ∧ Q7 q) : queryB q = true := by unfold queryB; simp [h]
theorem queryB_no {q : T74.D} (h : ¬ (Q1 q ∧ Q2 q ∧ Q3 q ∧ Q4 q ∧ Q5 q ∧ Q6 q ∧ Q7 q)) : queryB q = false := by unfold queryB; simp [h]
theorem winB_iff {win size every : Int} {ng : Nat} : windowB win size every ng = true ↔ (inB win 0 3 = true ∧ (¬ win = 0 → 0 < ng)) ∧ ((win = 0 → size = 0) ∧ (¬ win = 0 → inB size 1 1000000000000 = true)) ∧ ((win = 2 → inB every 1 size = true ∧ size ≤ IntKind.wrap .i64 (20 * every)) ∧ (¬ win = 2 → every = 0)) := by
  have hw : inB size 1 1000000000000 = true → inB every 1 size = true → IntKind.wrap .i64 (20 * every) = 20 * every := fun h1 h2 => by
    simp [inB] at h1 h2
    exact wrap64_id (by omega)
  unfold windowB
  by_cases h0 : win = 0
  · subst h0; simp [inB]
  · by_cases h1 : win = 1
    · subst h1; simp [inB]; omega
    · by_cases h3 : win = 3
      · subst h3; simp [inB]; omega
      · by_cases h2 : win = 2
        · subst h2
          simp
          constructor
          · rintro ⟨⟨⟨a, b⟩, c⟩, d⟩
            rw [hw a b]
            exact ⟨⟨by simp [inB], d⟩, a, b, c⟩
          · rintro ⟨⟨_, d⟩, a, b, c⟩
            rw [hw a b] at c
            exact ⟨⟨⟨a, b⟩, c⟩, d⟩
        · simp [h0, h1, h2, h3, inB]; omega
def wWin : Spec [(true, T74)] := ⟨fun _ => True, fun x _ => .bool (windowB x.1.2.2.2.2.2.2.2.1 x.1.2.2.2.2.2.2.2.2.1 x.1.2.2.2.2.2.2.2.2.2.1 x.1.2.2.2.2.2.2.1.length), fun _ => []⟩
noncomputable def wQ : Spec [(true, T74)] := ⟨fun _ => True, fun x _ => .bool (queryB x.1), fun _ => []⟩
set_option maxHeartbeats 8000000 in
set_option maxRecDepth 100000 in
theorem f149_ok : FSpecOk Try.prog 149 wWin := by
  intro x n hp
  obtain ⟨⟨from_, join, within, on_, lookup, whr, groups, win, size, every, gets⟩, u⟩ := x
  change Int at within win size every; change List (List UInt8) at groups
  refine FnOk_intro [.one .w] Try.func149 rfl ?_
  intro hw C hC
  have hΓ := CtrOk.add f59_ok rfl (noC_ok : CtrsOk Try.prog noC)
  refine ACode_ok (τ := tau) hΓ mixed _ _ _ ?_
  simp [Try.f149, wWin, wB]
  refine ⟨fun h0 => ?_, fun h0 => ⟨fun h1 => ⟨fun _ _ => ?_, fun h => absurd h1 h⟩, fun h1 => ⟨fun h3 _ => ?_, fun h3 => ⟨fun h2 _ => ?_, fun h2 => ?_⟩⟩⟩⟩
  · simp [↓retQ_ret, windowB, h0]
  · subst h1; simp [↓retQ_ret, windowB]
  · subst h3; simp [↓retQ_ret, windowB]
  · subst h2
    simp [↓retQ_ret, windowB]
    cases e1 : inB size 1 1000000000000 with
    | false => simp
    | true =>
      cases e2 : inB every 1 size with
      | false => simp
      | true =>
        have hw : IntKind.wrap .i64 (20 * every) = 20 * every := by
          simp [inB] at e1 e2
          exact wrap64_id (by omega)
        rw [hw]
  · simp [↓retQ_ret, windowB, h0, h1, h2, h3]
end Go.Proofs.Ytfinneebcfcdjaa
