/- Topics, names, slots: the contracts of what tells whether they are in order. -/
import Derived.Test.YtfinneebcfcdjaaGa
import Derived.Test.YtfinneebcfcdjaaNa
namespace Go.Proofs.Ytfinneebcfcdjaa
open Go Go.RowKit
set_option linter.all false
set_option maxRecDepth 100000
set_option maxHeartbeats 4000000
def aheadB (a b : T48.D) : Bool := sLt a.1 b.1 || (decide (a.1 = b.1) && decide ((a.2 : Int) < b.2))
def slotB (s : T48.D) : Bool := nameB s.1 && inB s.2 0 49
def slotAt (l : List T48.D) (i : Nat) : Bool := slotB (nth T48 l i) && (decide (i = 0) || aheadB (nth T48 l (i - 1)) (nth T48 l i))
def slotsB (l : List T48.D) : Bool := (List.range l.length).all (slotAt l) && decide ((l.length : Int) ≤ 400)
def nameAt (l : List (List UInt8)) (i : Nat) : Bool := nameB (nth .str l i) && (decide (i = 0) || sLt (nth .str l (i - 1)) (nth .str l i))
def namesB (l : List (List UInt8)) (most : Int) : Bool := (List.range l.length).all (nameAt l) && decide ((l.length : Int) ≤ most)
def topicAt (l : List T50.D) (i : Nat) : Bool := nameB (nth T50 l i).1 && (decide (i = 0) || sLt (nth T50 l (i - 1)).1 (nth T50 l i).1) && inB (nth T50 l i).2 0 50
def partsOf (l : List T50.D) : List Int := l.map fun t => t.2
def topicsB (l : List T50.D) : Bool := (List.range l.length).all (topicAt l) && decide ((l.length : Int) ≤ 20) && decide ((partsOf l).sum ≤ 400)
def wAhead : Spec [(true, T48), (true, T48)] := ⟨fun _ => True, fun x _ => .bool (aheadB x.1 x.2.1), fun _ => []⟩
def wSlot : Spec [(true, T48)] := ⟨fun _ => True, fun x _ => .bool (slotB x.1), fun _ => []⟩
def wSlots : Spec [(false, .sl T48)] := ⟨fun _ => True, fun x _ => .bool (slotsB x.1), fun _ => []⟩
def wNames (most : Int) : Spec [(false, .sl .str), (false, .int .i64)] := ⟨fun x => iv x.2.1 = most, fun x _ => .bool (namesB x.1 x.2.1), fun _ => []⟩
def wNames1 : Spec [(false, .sl .str)] := ⟨fun _ => True, fun x _ => .bool (namesB x.1 20), fun _ => []⟩
def wTops : Spec [(false, .sl T50)] := ⟨fun x => x.1.length ≤ 1048576, fun x _ => .bool (topicsB x.1), fun _ => []⟩
theorem slotsB_no {l : List T48.D} {i : Nat} (hi : i < l.length) (h : slotAt l i = false) : slotsB l = false := by unfold slotsB; rw [range_all_no hi h]; rfl
theorem slotsB_yes {l : List T48.D} (h : ∀ j, j < l.length → slotAt l j = true) : slotsB l = decide ((l.length : Int) ≤ 400) := by unfold slotsB; rw [range_all.2 h]; rfl
theorem namesB_no {l : List (List UInt8)} {m : Int} {i : Nat} (hi : i < l.length) (h : nameAt l i = false) : namesB l m = false := by unfold namesB; rw [range_all_no hi h]; rfl
theorem namesB_yes {l : List (List UInt8)} {m : Int} (h : ∀ j, j < l.length → nameAt l j = true) : namesB l m = decide ((l.length : Int) ≤ m) := by unfold namesB; rw [range_all.2 h]; rfl
theorem topicsB_no {l : List T50.D} {i : Nat} (hi : i < l.length) (h : topicAt l i = false) : topicsB l = false := by unfold topicsB; rw [range_all_no hi h]; rfl
theorem topicsB_yes {l : List T50.D} (h : ∀ j, j < l.length → topicAt l j = true) : topicsB l = (decide ((l.length : Int) ≤ 20) && decide ((partsOf l).sum ≤ 400)) := by unfold topicsB; rw [range_all.2 h]; rfl
theorem parts_take {l : List T50.D} {i : Nat} (h : i < l.length) : (partsOf (l.take (i + 1))).sum = (partsOf (l.take i)).sum + (nth T50 l i).2 := by
  unfold partsOf
  rw [take_nth h, List.map_append, List.sum_append]; simp
theorem parts_in {l : List T50.D} : ∀ {i : Nat}, i ≤ l.length → (∀ j, j < i → topicAt l j = true) → 0 ≤ (partsOf (l.take i)).sum ∧ (partsOf (l.take i)).sum ≤ 50 * i
  | 0, _, _ => by simp [partsOf]
  | i + 1, hi, h => by
    have ih := parts_in (i := i) (by omega) fun j hj => h j (by omega)
    rw [parts_take (by omega)]
    have := h i (by omega)
    simp only [topicAt, inB, Bool.and_eq_true, decide_eq_true_eq] at this
    omega
/-- l9Ahead. -/
theorem f137_ok : FSpecOk Try.prog 137 wAhead := by
  intro x n hp
  obtain ⟨⟨a, i⟩, ⟨b, j⟩, u⟩ := x; change List UInt8 at a b; change Int at i j
  refine FnOk_intro [.one .w] Try.func137 rfl ?_
  intro hw C hC
  refine ACode_ok (τ := tau) (noC_ok : CtrsOk Try.prog noC) mixed _ _ _ ?_
  simp [Try.f137, wAhead]
  exact ⟨fun h => ⟨h, fun e => ⟨h, e⟩⟩, by simp [↓retQ_ret, ↓retQ_normal, aheadB]⟩
/-- slotOk. -/
theorem f142_ok : FSpecOk Try.prog 142 wSlot := by
  intro x n hp
  obtain ⟨⟨a, i⟩, u⟩ := x; change List UInt8 at a; change Int at i
  refine FnOk_intro [.one .w] Try.func142 rfl ?_
  intro hw C hC
  refine ACode_ok (τ := tau) (CtrOk.add f59_ok rfl (CtrOk.add f83_ok rfl (noC_ok : CtrsOk Try.prog noC))) mixed _ _ _ ?_
  simp [Try.f142, wSlot, wB, wN]
  simp [↓retQ_ret, ↓retQ_normal, slotB]
/-- slotsOk. -/
theorem f85_ok (hA : FSpecOk Try.prog 143 wAhead) : FSpecOk Try.prog 85 wSlots := by
  intro x n hp
  obtain ⟨l, u⟩ := x; change List T48.D at l
  refine FnOk_intro [.one .w] Try.func85 rfl ?_
  intro hw C hC
  have hΓ := CtrOk.add hA rfl (CtrOk.add f142_ok rfl (noC_ok : CtrsOk Try.prog noC))
  refine ACode_ok (τ := tau) hΓ mixed _ _ _ ?_
  simp [Try.f85, wSlots]
  intro hmx
  refine AWp_loop_ind hΓ mixed tau (fun i : Nat => ⟨[.sl T48 l, .any, .bool false, .any, .any, .sl T48 l, .int .i64 l.length, .int .i64 i] ++ List.replicate 25 .any, []⟩) (fun i => l.length - i) (fun i => i ≤ l.length ∧ ∀ j, j < i → slotAt l j = true) 0 [] ?_ ?_ ?_
  · simp [hC]
  · simp
  · rintro i ⟨hi, ht⟩
    rcases hf : nth T48 l i with ⟨nm, pt⟩
    change List UInt8 at nm; change Int at pt
    have hs : slotAt l i = (slotB (nm, pt) && (decide (i = 0) || aheadB (nth T48 l (i - 1)) (nm, pt))) := by unfold slotAt; rw [hf]
    have w2 : i < l.length → IntKind.i64.wrap ((i : Int) + 1) = i + 1 := fun h => wrap64_id (by omega)
    have hstep : slotAt l i = true → ∀ j, j < i + 1 → slotAt l j = true := fun h j hj => by
      rcases Nat.lt_succ_iff_lt_or_eq.1 hj with e | e
      · exact ht j e
      · rw [e]; exact h
    have hend : l.length ≤ i → slotsB l = decide ((l.length : Int) ≤ 400) := fun h => slotsB_yes fun j hj => ht j (by omega)
    have hno : i < l.length → slotAt l i = false → slotsB l = false := slotsB_no
    by_cases h0 : i = 0
    · subst h0
      have hs : slotAt l 0 = slotB (nm, pt) := by rw [hs]; simp
      simp [wSlot, wAhead, hf]
      repeat' (first | with_reducible refine And.intro ?_ ?_ | intro _)
      all_goals first
        | (show Region.lexB .any _ = true; kernel_rfl)
        | assumption
        | omega
        | (rename_i h; rw [h] at hs; simp [↓retQ_ret, ↓retQ_normal, hno (by assumption) hs]; done)
        | (rename_i h; rw [h] at hs; exact ⟨1, ⟨by omega, hstep hs⟩, by omega, [], by simp [hC], by decide, by decide, by simp [leH]⟩)
        | (rw [hend (by simp [*])]; simp [↓retQ_ret, ↓retQ_normal]; done)
    · have h1 : 0 < i := by omega
      have w1 : IntKind.i64.wrap ((i : Int) - 1) = ((i - 1 : Nat) : Int) := by rw [wrap64_id (by omega)]; omega
      rcases hg : nth T48 l (i - 1) with ⟨nm', pt'⟩
      change List UInt8 at nm'; change Int at pt'
      have hs : slotAt l i = (slotB (nm, pt) && aheadB (nm', pt') (nm, pt)) := by rw [hs, hg]; simp [h0]
      simp [wSlot, wAhead, hf, w1, h1, hg]
      repeat' (first | with_reducible refine And.intro ?_ ?_ | intro _)
      all_goals first
        | (show Region.lexB .any _ = true; kernel_rfl)
        | assumption
        | omega
        | (have h : slotAt l i = false := by
             rename_i h; rw [hs]; rcases h with h | h <;> simp [h]
           simp [↓retQ_ret, ↓retQ_normal, hno (by assumption) h]; done)
        | (have h : slotAt l i = true := by
             rename_i h h'; rw [hs, h, h']; rfl
           exact ⟨i + 1, ⟨by omega, hstep h⟩, by omega, [], by simp [hC], by decide, by rw [w2 (by assumption)]; rfl, by simp [leH]⟩)
        | (rw [hend (by assumption)]; simp [↓retQ_ret, ↓retQ_normal]; done)
end Go.Proofs.Ytfinneebcfcdjaa
