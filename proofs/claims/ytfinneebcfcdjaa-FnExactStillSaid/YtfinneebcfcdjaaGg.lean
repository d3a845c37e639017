/- GroupOk of the laws' side. -/
import Derived.Test.YtfinneebcfcdjaaGf
namespace Go.Proofs.Ytfinneebcfcdjaa
open Go Go.RowKit
set_option linter.all false
set_option pp.deepTerms true
set_option pp.maxSteps 200000
set_option maxRecDepth 100000
set_option maxHeartbeats 8000000
def pairB (ms : List T126.D) (k i : Nat) : Bool :=
  (decide (mStat (nth T126 ms i) = []) || decide (mStat (nth T126 ms k) ≠ mStat (nth T126 ms i))) &&
  (mOwns (nth T126 ms i)).all (fun x => decide (x ∉ mOwns (nth T126 ms k))) &&
  (mTarg (nth T126 ms i)).all (fun x => decide (x ∉ mTarg (nth T126 ms k)))
theorem nth_map {ms : List T126.D} {f : T126.D → List T48.D} {i : Nat} (h : i < ms.length) : (ms.map f).getD i [] = f (nth T126 ms i) := by
  unfold nth
  rw [List.getD_eq_getElem?_getD, List.getD_eq_getElem?_getD, List.getElem?_map, List.getElem?_eq_getElem h]; rfl
theorem groupB_pairs (g : T60.D) : groupB g = (grpH g && (List.range g.2.2.2.2.2.length).all (fun i => memAt g.2.2.1 g.2.2.2.1 g.2.2.2.2.2 i && (List.range i).all fun k => pairB g.2.2.2.2.2 k i)) := by
  obtain ⟨kind, tmo, now, round, tops, ms⟩ := g
  change Int at kind tmo now round; change List T50.D at tops; change List T126.D at ms
  rw [Bool.eq_iff_iff]
  unfold groupB
  simp only [Bool.and_eq_true, decide_eq_true_eq, and_assoc]
  refine and_congr_right fun _ => ?_
  rw [range_all, range_all]
  have key : (∀ j, j < ms.length → memAt now round ms j = true) → (((ms.map mOwns).flatten.Nodup ↔ ∀ i, i < ms.length → ∀ k, k < i → ∀ x ∈ mOwns (nth T126 ms i), x ∉ mOwns (nth T126 ms k)) ∧ ((ms.map mTarg).flatten.Nodup ↔ ∀ i, i < ms.length → ∀ k, k < i → ∀ x ∈ mTarg (nth T126 ms i), x ∉ mTarg (nth T126 ms k))) := by
    intro h
    have hs : ∀ m ∈ ms, slotsB (mOwns m) = true ∧ slotsB (mTarg m) = true := by
      intro m hm
      obtain ⟨i, hi, e⟩ := List.mem_iff_getElem.1 hm
      have hh := h i hi
      have e1 : nth T126 ms i = m := by unfold nth; rw [List.getD_eq_getElem?_getD, List.getElem?_eq_getElem hi, e]; rfl
      unfold memAt memB at hh
      rw [e1] at hh
      simp only [Bool.and_eq_true] at hh
      exact ⟨hh.1.1.2, hh.1.2⟩
    constructor
    · rw [flat_nodup fun l hl => by
        obtain ⟨m, hm, e⟩ := List.mem_map.1 hl
        rw [← e]; exact slotsB_nodup (hs m hm).1]
      rw [List.length_map]
      refine forall_congr' fun i => forall_congr' fun hi => forall_congr' fun k => forall_congr' fun hk => ?_
      rw [nth_map hi, nth_map (by omega)]
    · rw [flat_nodup fun l hl => by
        obtain ⟨m, hm, e⟩ := List.mem_map.1 hl
        rw [← e]; exact slotsB_nodup (hs m hm).2]
      rw [List.length_map]
      refine forall_congr' fun i => forall_congr' fun hi => forall_congr' fun k => forall_congr' fun hk => ?_
      rw [nth_map hi, nth_map (by omega)]
  constructor
  · rintro ⟨h1, h2, h3⟩ i hi
    have hm : ∀ j, j < ms.length → memAt now round ms j = true := fun j hj => by
      have := h1 j hj
      simp only [Bool.and_eq_true] at this; exact this.1
    rw [(key hm).1] at h2
    rw [(key hm).2] at h3
    rw [hm i hi, Bool.true_and, range_all]
    intro k hk
    have hst := h1 i hi
    simp only [Bool.and_eq_true] at hst
    unfold pairB
    simp only [Bool.and_eq_true, List.all_eq_true, decide_eq_true_eq]
    refine ⟨⟨?_, h2 i hi k hk⟩, h3 i hi k hk⟩
    have := hst.2
    unfold statAt at this
    rw [Bool.or_eq_true, range_all] at this
    rw [Bool.or_eq_true]
    rcases this with h | h
    · exact .inl h
    · exact .inr (h k hk)
  · intro h
    have hm : ∀ j, j < ms.length → memAt now round ms j = true := fun j hj => by
      have := h j hj
      simp only [Bool.and_eq_true] at this; exact this.1
    have hpb : ∀ i, i < ms.length → ∀ k, k < i → pairB ms k i = true := fun i hi k hk => by
      have := h i hi
      rw [Bool.and_eq_true, range_all] at this; exact this.2 k hk
    rw [(key hm).1, (key hm).2]
    refine ⟨fun i hi => ?_, fun i hi k hk => ?_, fun i hi k hk => ?_⟩
    · rw [hm i hi, Bool.true_and]
      unfold statAt
      rw [Bool.or_eq_true, range_all]
      by_cases e : (nth T126 ms i).2.1 = []
      · left; simp [e]
      · right
        intro k hk
        have := hpb i hi k hk
        unfold pairB at this
        simp only [Bool.and_eq_true, Bool.or_eq_true, decide_eq_true_eq] at this
        rcases this.1.1 with h | h
        · exact absurd h e
        · simpa using h
    · have := hpb i hi k hk
      unfold pairB at this
      simp only [Bool.and_eq_true, List.all_eq_true, decide_eq_true_eq] at this
      exact this.1.2
    · have := hpb i hi k hk
      unfold pairB at this
      simp only [Bool.and_eq_true, List.all_eq_true, decide_eq_true_eq] at this
      exact this.2
end Go.Proofs.Ytfinneebcfcdjaa
