/- Schemas: the contracts of SchemaOk. -/
import Derived.Test.YthojapklndjidaaVn
import Derived.Test.YthojapklndjidaaVd
namespace Go.Proofs.Ythojapklndjidaa
open Go Go.RowKit
set_option linter.all false
set_option pp.deepTerms true
set_option pp.maxSteps 200000
def fieldB1 (f : T73.D) : Bool := inB f.2.1 1 4 && decide ((f.2.2.2.2.1.length : Int) ≤ 4) && (if f.2.2.2.2.2.1 then valueOfB f f.2.2.2.2.2.2 else zeroB f.2.2.2.2.2.2)
def namesF (f : T73.D) : List (List UInt8) := f.1 :: f.2.2.2.2.1
def fieldB (f : T73.D) : Bool := fieldB1 f && (namesF f).all nameB
def namesS (s : T32.D) : List (List UInt8) := s.2.flatMap namesF
def schemaB (s : T32.D) : Bool := nameB s.1 && inB s.2.length 1 20 && s.2.all fieldB1 && (namesS s).all nameB && decide (namesS s).Nodup
def namesT (fs : List T73.D) (i : Nat) : List (List UInt8) := (fs.take i).flatMap namesF
theorem namesT_succ {fs : List T73.D} {i : Nat} (h : i < fs.length) : namesT fs (i + 1) = namesT fs i ++ namesF (nth T73 fs i) := by
  unfold namesT
  rw [take_nth h, List.flatMap_append]
  simp
theorem namesS_split {nm : List UInt8} {fs : List T73.D} {i : Nat} (h : i < fs.length) : namesS (nm, fs) = namesT fs i ++ (namesF (nth T73 fs i) ++ (fs.drop (i + 1)).flatMap namesF) := by
  have e : namesS (nm, fs) = (fs.take i ++ nth T73 fs i :: fs.drop (i + 1)).flatMap namesF := by rw [← split_nth h]; rfl
  rw [e, List.flatMap_append, List.flatMap_cons]; rfl
theorem namesS_all {nm : List UInt8} {fs : List T73.D} : (namesS (nm, fs)).all nameB = fs.all fun f => (namesF f).all nameB := by
  unfold namesS
  rw [List.all_flatMap]
theorem schemaB_no1 {nm : List UInt8} {fs : List T73.D} {i : Nat} (h : i < fs.length) (hb : fieldB (nth T73 fs i) = false) : schemaB (nm, fs) = false := by
  unfold schemaB
  rw [namesS_all]
  simp only [fieldB, Bool.and_eq_false_iff] at hb
  rcases hb with hb | hb
  · have := all_nth_no (T := T73) (p := fieldB1) h hb
    simp [this]
  · have := all_nth_no (T := T73) (p := fun f => (namesF f).all nameB) h hb
    simp [this]
theorem schemaB_dup {nm : List UInt8} {fs : List T73.D} {i : Nat} (h : i < fs.length) (hb : ¬ (namesT fs i ++ namesF (nth T73 fs i)).Nodup) : schemaB (nm, fs) = false := by
  have : ¬ (namesS (nm, fs)).Nodup := by
    rw [namesS_split h, ← List.append_assoc, List.nodup_append]
    exact fun hh => hb hh.1
  unfold schemaB
  simp [this]
theorem schemaB_all {nm : List UInt8} {fs : List T73.D} (h1 : nameB nm = true) (h2 : inB fs.length 1 20 = true) (ha : ∀ j, j < fs.length → fieldB (nth T73 fs j) = true) (hn : (namesT fs fs.length).Nodup) : schemaB (nm, fs) = true := by
  have e1 : fs.all fieldB1 = true := (all_nth (T := T73)).2 fun j hj => by have := ha j hj; simp only [fieldB, Bool.and_eq_true] at this; exact this.1
  have e2 : (fs.all fun f => (namesF f).all nameB) = true := (all_nth (T := T73) (p := fun f => (namesF f).all nameB)).2 fun j hj => by have := ha j hj; simp only [fieldB, Bool.and_eq_true] at this; exact this.2
  have e3 : (namesS (nm, fs)).Nodup := by
    have : namesS (nm, fs) = namesT fs fs.length := by unfold namesS namesT; rw [List.take_length]
    rw [this]; exact hn
  unfold schemaB
  rw [namesS_all]
  simp [h1, h2, e1, e2, e3]
theorem fieldB1_was {f : T73.D} (h : fieldB1 f = true) : f.2.2.2.2.1.length ≤ 4 := by
  simp only [fieldB1, Bool.and_eq_true, decide_eq_true_eq] at h
  omega
theorem fieldB_was {f : T73.D} (h : fieldB f = true) : f.2.2.2.2.1.length ≤ 4 := by
  simp only [fieldB, Bool.and_eq_true] at h
  exact fieldB1_was h.1
theorem fieldB_of1 {f : T73.D} (h : fieldB1 f = false) : fieldB f = false := by simp [fieldB, h]
theorem namesT_len {fs : List T73.D} : ∀ {i : Nat}, i ≤ fs.length → (∀ j, j < i → (nth T73 fs j).2.2.2.2.1.length ≤ 4) → (namesT fs i).length ≤ 5 * i
  | 0, _, _ => by simp [namesT]
  | i + 1, h, hw => by
    have h1 := namesT_len (fs := fs) (i := i) (by omega) fun j hj => hw j (by omega)
    have h2 := hw i (by omega)
    rw [namesT_succ (by omega), List.length_append]
    simp only [namesF, List.length_cons]
    omega
theorem nth_mem {l : List (List UInt8)} {x : List UInt8} {a : Nat} (h : x ∈ l.take a) : ∃ b, b < a ∧ b < l.length ∧ nth Ty.str l b = x := by
  obtain ⟨b, hb, rfl⟩ := List.mem_iff_getElem.1 h
  rw [List.length_take] at hb
  refine ⟨b, by omega, by omega, ?_⟩
  rw [List.getElem_take]
  unfold nth
  rw [List.getD_eq_getElem?_getD, List.getElem?_eq_getElem (by omega)]; rfl
theorem nth_twin {l : List (List UInt8)} {k a : Nat} (hk : k < a) (ha : a < l.length) (h : nth Ty.str l k = nth Ty.str l a) : ¬ l.Nodup := by
  intro hn
  have e : ∀ i (hi : i < l.length), nth Ty.str l i = l[i] := fun i hi => by unfold nth; rw [List.getD_eq_getElem?_getD, List.getElem?_eq_getElem hi]; rfl
  rw [e k (by omega), e a ha] at h
  have := (List.nodup_iff_pairwise_ne.1 hn)
  rw [List.pairwise_iff_getElem] at this
  exact this k a (by omega) ha hk h
def w80 : Spec [(true, T73)] := ⟨fun _ => True, fun x _ => .bool (fieldB x.1), fun _ => []⟩
def wS : Spec [(true, T32)] := ⟨fun _ => True, fun x _ => .bool (schemaB x.1), fun _ => []⟩
set_option maxHeartbeats 4000000 in
set_option maxRecDepth 100000 in
theorem f86_ok : FSpecOk Try.prog 86 w80 := by
  intro x n hp
  obtain ⟨⟨nm, fk, fl, fm, was, fx, vk, vn, vt, vl, vi⟩, u⟩ := x; change List UInt8 at nm; change Int at fk; change Bool at fl fm fx; change List (List UInt8) at was
  refine FnOk_intro [.one .w] Try.func86 rfl ?_
  intro hw C hC
  have hΓ := CtrOk.add f66_ok rfl (CtrOk.add f53_ok rfl (CtrOk.add f78_ok rfl (CtrOk.add f111_ok rfl (noC_ok : CtrsOk Try.prog noC))))
  refine ACode_ok (τ := tau) hΓ mixed _ _ _ ?_
  simp [Try.f86, w80, wN, wB, wVO, w69]
  intro hmax
  refine ⟨fun h => ?_, fun h1 h2 h3 hmax2 => ?_⟩
  · simp [↓retQ_ret, fieldB, fieldB1, namesF]
    intro e1 e2 e3 e4
    rcases h with (h | h) | h
    · rw [h] at e4; simp at e4
    · rw [h] at e1; simp at e1
    · omega
  refine AWp_loop_ind hΓ mixed tau (fun i : Nat => ⟨[.any, .ptr 0 0, .bool false] ++ List.replicate 19 .any ++ [.sl .str was, .int .i64 was.length, .int .i64 i] ++ List.replicate 16 .any, [.cells 73 [.str nm, .int .i64 fk, .bool fl, .bool fm, .sl .str was, .bool fx, .int .i64 vk, .int .i64 vn, .str vt, .bool vl, .sl T76 vi]]⟩) (fun i => was.length - i) (fun i => i ≤ was.length ∧ ∀ j, j < i → nameB (nth Ty.str was j) = true) 0 [0] ?_ ?_ ?_
  · simp [hC]
  · simp
  · rintro i ⟨hi, ht⟩
    simp [wN, wVO, w69]
    refine ⟨fun hlt => ⟨hlt, fun hb => ?_, fun hb => ?_⟩, fun hge => ⟨fun hx => ?_, fun hx => ?_⟩⟩
    · have hall := all_nth_no (T := Ty.str) (p := nameB) hlt hb
      simp only [↓retQ_ret, fieldB, namesF, List.all_cons, hall]
      simp
    · refine ⟨i + 1, ⟨by omega, fun j hj => ?_⟩, by omega, [0], by simp [hC], by simp, ⟨by simp, wrap64_id (by omega)⟩, by simp⟩
      rcases Nat.lt_succ_iff_lt_or_eq.1 hj with h | h
      · exact ht j h
      · rw [h]; exact hb
    · have hall : was.all nameB = true := (all_nth (T := Ty.str)).2 fun j hj => ht j (by omega)
      simp only [↓retQ_ret, fieldB, fieldB1, namesF, List.all_cons, hall, h1, h2, hx]
      simp [h3]
    · have hall : was.all nameB = true := (all_nth (T := Ty.str)).2 fun j hj => ht j (by omega)
      simp only [↓retQ_ret, fieldB, fieldB1, namesF, List.all_cons, hall, h1, h2, hx]
      simp [h3]
end Go.Proofs.Ythojapklndjidaa
