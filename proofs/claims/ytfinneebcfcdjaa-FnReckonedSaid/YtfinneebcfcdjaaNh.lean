/- Reckoning: the contracts of l14Bool, truth, l14Kept, l14Product, times, l14Do, reckon. -/
import Derived.Test.YtfinneebcfcdjaaNc
namespace Go.Proofs.Ytfinneebcfcdjaa
open Go Go.RowKit
set_option linter.all false
set_option pp.deepTerms true
set_option pp.maxSteps 200000
def bigB (n : Int) : Prop := -1000000000000000 ≤ n ∧ n ≤ 1000000000000000
instance (n : Int) : Decidable (bigB n) := by unfold bigB; infer_instance
def kept (n : Int) : Int := if bigB n then n else 0
def truthI (b : Bool) : Int := if b then 1 else 0
def doF (op a b : Int) : Int :=
  if op = 3 then kept (a + b) else if op = 4 then kept (a - b) else if op = 5 then kept (a * b)
  else if op = 6 then (if b = 0 then 0 else a.tdiv b) else if op = 7 then (if b = 0 then 0 else a.tmod b)
  else if op = 8 then truthI (decide (a < b)) else if op = 9 then truthI (decide (a = b))
  else if op = 10 then truthI (decide (a ≠ 0) && decide (b ≠ 0)) else truthI (decide (a ≠ 0) || decide (b ≠ 0))
theorem kept_big (n : Int) : bigB (kept n) := by
  unfold kept; split
  · assumption
  · unfold bigB; omega
theorem kept_id {n : Int} (h : bigB n) : kept n = n := if_pos h
theorem truth_big (b : Bool) : bigB (truthI b) := by cases b <;> simp [truthI, bigB]
theorem tdiv_big {a b : Int} (ha : bigB a) (hb : b ≠ 0) : bigB (a.tdiv b) := by
  have h := Int.natAbs_tdiv_le_natAbs a b
  unfold bigB at *; omega
theorem tmod_big {a b : Int} (ha : bigB a) : bigB (a.tmod b) := by
  have h : (a.tmod b).natAbs ≤ a.natAbs := by rw [Int.natAbs_tmod]; exact Nat.mod_le _ _
  unfold bigB at *; omega
theorem doF_big {op a b : Int} (ha : bigB a) (hb : bigB b) : bigB (doF op a b) := by
  unfold doF
  repeat' split
  all_goals first | exact kept_big _ | exact truth_big _ | exact tdiv_big ha (by assumption) | exact tmod_big ha | (unfold bigB; omega)
theorem mul_big {a b : Int} (h : a.natAbs * b.natAbs ≤ 1000000000000000) : bigB (a * b) := by
  rw [← Int.natAbs_mul] at h; unfold bigB; omega
theorem mul_not {a b : Int} (h : ¬ a.natAbs * b.natAbs ≤ 1000000000000000) : kept (a * b) = 0 := by
  rw [← Int.natAbs_mul] at h; unfold kept; rw [if_neg]; unfold bigB; omega
theorem quo_le {x y : Int} (hx : 0 < x) (hy : 0 ≤ y) : y ≤ (1000000000000000 : Int).tdiv x ↔ x.natAbs * y.natAbs ≤ 1000000000000000 := by
  rw [Int.tdiv_eq_ediv_of_nonneg (by omega), Int.le_ediv_iff_mul_le hx]
  have : ((x.natAbs * y.natAbs : Nat) : Int) = y * x := by
    rw [Int.natCast_mul, Int.natAbs_of_nonneg (by omega), Int.natAbs_of_nonneg hy, Int.mul_comm]
  omega
theorem quo_in {x : Int} (hx : 0 < x) : 0 ≤ (1000000000000000 : Int).tdiv x ∧ (1000000000000000 : Int).tdiv x ≤ 1000000000000000 := by
  rw [Int.tdiv_eq_ediv_of_nonneg (by omega)]
  exact ⟨Int.ediv_nonneg (by omega) (by omega), Int.ediv_le_self _ (by omega)⟩
theorem quo_lt {a b x y : Int} (hx : 0 < x) (hy : 0 ≤ y) (ex : x.natAbs = b.natAbs) (ey : y.natAbs = a.natAbs) (h : (1000000000000000 : Int).tdiv x < y) : kept (a * b) = 0 := by
  apply mul_not
  rw [← ex, ← ey, Nat.mul_comm, ← quo_le hx hy]; omega
theorem quo_ge {a b x y : Int} (hx : 0 < x) (hy : 0 ≤ y) (ex : x.natAbs = b.natAbs) (ey : y.natAbs = a.natAbs) (h : y ≤ (1000000000000000 : Int).tdiv x) : bigB (a * b) := by
  apply mul_big
  rw [← ex, ← ey, Nat.mul_comm, ← quo_le hx hy]; omega
theorem big_wrap {n : Int} (h : bigB n) : IntKind.i64.wrap n = kept n := by
  rw [kept_id h, wrap64_id (by unfold bigB at h; omega)]
theorem quo_wrap {x : Int} (hx : 0 < x) : IntKind.i64.wrap ((1000000000000000 : Int).tdiv x) = (1000000000000000 : Int).tdiv x := by
  have := quo_in hx
  exact wrap64_id (by omega)
def wTr : Spec [(false, .bool)] := ⟨fun _ => True, fun x _ => .int .i64 (truthI x.1), fun _ => []⟩
def wKp : Spec [(false, .int .i64)] := ⟨fun _ => True, fun x _ => .int .i64 (kept x.1), fun _ => []⟩
def wMu : Spec [(false, .int .i64), (false, .int .i64)] := ⟨fun x => bigB x.1 ∧ bigB x.2.1, fun x _ => .int .i64 (kept (x.1 * x.2.1)), fun _ => []⟩
set_option maxHeartbeats 4000000 in
set_option maxRecDepth 100000 in
theorem f61_ok : FSpecOk Try.prog 61 wTr := by
  intro x n hp
  obtain ⟨b, u⟩ := x; change Bool at b
  refine FnOk_intro [.one .w] Try.func61 rfl ?_
  intro hw C hC
  refine ACode_ok (τ := tau) (noC_ok : CtrsOk Try.prog noC) mixed _ _ _ ?_
  cases b <;> simp [Try.f61, wTr] <;> simp [↓retQ_ret, truthI]
set_option maxHeartbeats 4000000 in
set_option maxRecDepth 100000 in
theorem f66_ok : FSpecOk Try.prog 66 wTr := by
  intro x n hp
  obtain ⟨b, u⟩ := x; change Bool at b
  refine FnOk_intro [.one .w] Try.func66 rfl ?_
  intro hw C hC
  refine ACode_ok (τ := tau) (noC_ok : CtrsOk Try.prog noC) mixed _ _ _ ?_
  cases b <;> simp [Try.f66, wTr] <;> simp [↓retQ_ret, truthI]
set_option maxHeartbeats 4000000 in
set_option maxRecDepth 100000 in
theorem f132_ok : FSpecOk Try.prog 132 wKp := by
  intro x n hp
  obtain ⟨a, u⟩ := x; change Int at a
  refine FnOk_intro [.one .w] Try.func132 rfl ?_
  intro hw C hC
  refine ACode_ok (τ := tau) (CtrOk.add f65_ok rfl (noC_ok : CtrsOk Try.prog noC)) mixed _ _ _ ?_
  simp [Try.f132, wKp, wB]
  refine ⟨fun h => ?_, fun h => ?_⟩
  · have : kept a = 0 := if_neg (by unfold inB at h; unfold bigB; simp at h; omega)
    simp [↓retQ_ret, this]
  · have : kept a = a := if_pos (by unfold inB at h; unfold bigB; simp at h; omega)
    simp [↓retQ_ret, this]
set_option maxHeartbeats 4000000 in
set_option maxRecDepth 100000 in
theorem f133_ok : FSpecOk Try.prog 133 wMu := by
  intro x n hp
  obtain ⟨a, b, u⟩ := x; change Int at a b
  obtain ⟨ha, hb⟩ : bigB a ∧ bigB b := hp
  refine FnOk_intro [.one .w] Try.func133 rfl ?_
  intro hw C hC
  refine ACode_ok (τ := tau) (noC_ok : CtrsOk Try.prog noC) mixed _ _ _ ?_
  simp [Try.f133, wMu]
  unfold bigB at ha hb
  have ea : IntKind.i64.wrap (-a) = -a := wrap64_id (by omega)
  have eb : IntKind.i64.wrap (-b) = -b := wrap64_id (by omega)
  rw [ea, eb]
  have key : ∀ x y : Int, 0 < x → 0 ≤ y → x.natAbs = b.natAbs → y.natAbs = a.natAbs → (IntKind.i64.wrap ((1000000000000000 : Int).tdiv x) < y → kept (a * b) = 0) ∧ (y ≤ IntKind.i64.wrap ((1000000000000000 : Int).tdiv x) → IntKind.i64.wrap (a * b) = kept (a * b)) := by
    intro x y hx hy ex ey
    rw [quo_wrap hx]
    exact ⟨quo_lt hx hy ex ey, fun h => big_wrap (quo_ge hx hy ex ey h)⟩
  refine ⟨fun h => ?_, fun h1 h2 => ⟨fun h3 => ⟨fun h4 => ⟨by omega, fun h => ?_, fun h => ?_⟩, fun h4 => ⟨by omega, fun h => ?_, fun h => ?_⟩⟩, fun h3 => ⟨fun h4 => ⟨by omega, fun h => ?_, fun h => ?_⟩, fun h4 => ⟨by omega, fun h => ?_, fun h => ?_⟩⟩⟩⟩
  · have : kept (a * b) = 0 := by rcases h with h | h <;> subst h <;> simp [kept, bigB]
    simp [↓retQ_ret, this]
  · have := (key (-b) (-a) (by omega) (by omega) (by omega) (by omega)).1 h
    simp [↓retQ_ret, this]
  · have := (key (-b) (-a) (by omega) (by omega) (by omega) (by omega)).2 h
    simp [↓retQ_ret, this]
  · have := (key b (-a) (by omega) (by omega) (by omega) (by omega)).1 h
    simp [↓retQ_ret, this]
  · have := (key b (-a) (by omega) (by omega) (by omega) (by omega)).2 h
    simp [↓retQ_ret, this]
  · have := (key (-b) a (by omega) (by omega) (by omega) (by omega)).1 h
    simp [↓retQ_ret, this]
  · have := (key (-b) a (by omega) (by omega) (by omega) (by omega)).2 h
    simp [↓retQ_ret, this]
  · have := (key b a (by omega) (by omega) (by omega) (by omega)).1 h
    simp [↓retQ_ret, this]
  · have := (key b a (by omega) (by omega) (by omega) (by omega)).2 h
    simp [↓retQ_ret, this]
set_option maxHeartbeats 4000000 in
set_option maxRecDepth 100000 in
theorem f131_ok : FSpecOk Try.prog 131 wMu := by
  intro x n hp
  obtain ⟨a, b, u⟩ := x; change Int at a b
  obtain ⟨ha, hb⟩ : bigB a ∧ bigB b := hp
  refine FnOk_intro [.one .w] Try.func131 rfl ?_
  intro hw C hC
  refine ACode_ok (τ := tau) (noC_ok : CtrsOk Try.prog noC) mixed _ _ _ ?_
  simp [Try.f131, wMu]
  unfold bigB at ha hb
  have ea : IntKind.i64.wrap (-a) = -a := wrap64_id (by omega)
  have eb : IntKind.i64.wrap (-b) = -b := wrap64_id (by omega)
  rw [ea, eb]
  refine ⟨fun h => ⟨h, by omega⟩, fun h1 h2 => ?_, fun h => ?_⟩
  · rw [quo_wrap h1] at h2
    have : kept (b * a) = 0 := quo_lt h1 (by omega) (by omega) (by omega) h2
    rw [Int.mul_comm] at this
    simp [↓retQ_ret, this]
  · have : IntKind.i64.wrap (a * b) = kept (a * b) := by
      by_cases h1 : 0 < max a (-a)
      · have h2 := h h1
        rw [quo_wrap h1] at h2
        rw [Int.mul_comm]
        exact big_wrap (quo_ge h1 (by omega) (by omega) (by omega) h2)
      · have : a = 0 := by omega
        subst this; simp [kept, bigB, IntKind.wrap]
        try decide
    simp [↓retQ_ret, this]
def wDo : Spec [(false, .int .i64), (false, .int .i64), (false, .int .i64)] := ⟨fun x => bigB x.2.1 ∧ bigB x.2.2.1, fun x _ => .int .i64 (doF x.1 x.2.1 x.2.2.1), fun _ => []⟩
/-- What the program's reckon gives: not kept yet. -/
def rkF (op a b : Int) : Int := if op = 3 then a + b else if op = 4 then a - b else doF op a b
theorem rk_kept {op a b : Int} (ha : bigB a) (hb : bigB b) : kept (rkF op a b) = doF op a b := by
  unfold rkF
  split
  · simp [doF, *]
  · split
    · simp [doF, *]
    · exact kept_id (doF_big ha hb)
theorem rk_in {op a b : Int} (ha : bigB a) (hb : bigB b) : -2000000000000000 ≤ rkF op a b ∧ rkF op a b ≤ 2000000000000000 := by
  have h := doF_big (op := op) ha hb
  unfold rkF; unfold bigB at *
  repeat' split
  all_goals omega
def wRk : Spec [(false, .int .i64), (false, .int .i64), (false, .int .i64)] := ⟨fun x => bigB x.2.1 ∧ bigB x.2.2.1, fun x _ => .int .i64 (rkF x.1 x.2.1 x.2.2.1), fun _ => []⟩
set_option maxHeartbeats 4000000 in
set_option maxRecDepth 100000 in
theorem f67_ok : FSpecOk Try.prog 67 wDo := by
  intro x n hp
  obtain ⟨op, a, b, u⟩ := x; change Int at op a b
  obtain ⟨ha, hb⟩ : bigB a ∧ bigB b := hp
  refine FnOk_intro [.one .w] Try.func67 rfl ?_
  intro hw C hC
  refine ACode_ok (τ := tau) (CtrOk.add f132_ok rfl (CtrOk.add f133_ok rfl (CtrOk.add f66_ok rfl (noC_ok : CtrsOk Try.prog noC)))) mixed _ _ _ ?_
  have ha' := ha; have hb' := hb
  unfold bigB at ha' hb'
  have ea : IntKind.i64.wrap (a + b) = a + b := wrap64_id (by omega)
  have eb : IntKind.i64.wrap (a - b) = a - b := wrap64_id (by omega)
  simp [Try.f67, wDo, wKp, wMu, wTr, ha, hb]
  have et : ¬ b = 0 → IntKind.i64.wrap (a.tdiv b) = a.tdiv b := fun h => by have := tdiv_big ha h; unfold bigB at this; exact wrap64_id (by omega)
  have em : -1000000000000000 ≤ a.tmod b ∧ a.tmod b ≤ 1000000000000000 := tmod_big ha
  repeat' first
    | intro _
    | with_reducible refine And.intro ?_ ?_
  all_goals first
    | assumption
    | omega
    | (subst_vars; simp_all [↓retQ_ret, doF]; done)
    | (simp [↓retQ_ret, doF]; simp_all; done)
    | skip
set_option maxHeartbeats 4000000 in
set_option maxRecDepth 100000 in
theorem f62_ok : FSpecOk Try.prog 62 wRk := by
  intro x n hp
  obtain ⟨op, a, b, u⟩ := x; change Int at op a b
  obtain ⟨ha, hb⟩ : bigB a ∧ bigB b := hp
  refine FnOk_intro [.one .w] Try.func62 rfl ?_
  intro hw C hC
  refine ACode_ok (τ := tau) (CtrOk.add f131_ok rfl (CtrOk.add f61_ok rfl (noC_ok : CtrsOk Try.prog noC))) mixed _ _ _ ?_
  have ha' := ha; have hb' := hb
  unfold bigB at ha' hb'
  have ea : IntKind.i64.wrap (a + b) = a + b := wrap64_id (by omega)
  have eb : IntKind.i64.wrap (a - b) = a - b := wrap64_id (by omega)
  simp [Try.f62, wRk, wMu, wTr, ha, hb]
  have et : ¬ b = 0 → IntKind.i64.wrap (a.tdiv b) = a.tdiv b := fun h => by have := tdiv_big ha h; unfold bigB at this; exact wrap64_id (by omega)
  have em : -1000000000000000 ≤ a.tmod b ∧ a.tmod b ≤ 1000000000000000 := tmod_big ha
  repeat' first
    | intro _
    | with_reducible refine And.intro ?_ ?_
  all_goals first
    | assumption
    | omega
    | (subst_vars; simp_all [↓retQ_ret, rkF, doF]; done)
    | (simp [↓retQ_ret, rkF, doF]; simp_all; done)
    | skip
end Go.Proofs.Ytfinneebcfcdjaa
