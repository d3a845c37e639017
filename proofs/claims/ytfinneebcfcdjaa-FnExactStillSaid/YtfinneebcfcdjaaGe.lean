/- Groups: what it is to be one in order. -/
import Derived.Test.YtfinneebcfcdjaaGd
namespace Go.Proofs.Ytfinneebcfcdjaa
open Go Go.RowKit
set_option linter.all false
set_option maxRecDepth 100000
set_option maxHeartbeats 4000000
theorem aheadB_irrefl (a : T48.D) : aheadB a a = false := by
  obtain ⟨a, i⟩ := a; change Int at i
  unfold aheadB; simp [sLt_irrefl]
theorem aheadB_trans {a b c : T48.D} (h : aheadB a b = true) (k : aheadB b c = true) : aheadB a c = true := by
  obtain ⟨a, i⟩ := a; obtain ⟨b, j⟩ := b; obtain ⟨c, l⟩ := c
  change Int at i j l; change List UInt8 at a b c
  unfold aheadB at *
  simp only [Bool.or_eq_true, Bool.and_eq_true, decide_eq_true_eq] at *
  rcases h with h | ⟨h, h2⟩
  · rcases k with k | ⟨k, k2⟩
    · exact .inl (sLt_trans h k)
    · subst k; exact .inl h
  · subst h
    rcases k with k | ⟨k, k2⟩
    · exact .inl k
    · exact .inr ⟨k, Int.lt_trans h2 k2⟩
theorem slotsB_ahead {l : List T48.D} (h : slotsB l = true) : ∀ d i, i + d + 1 < l.length → aheadB (nth T48 l i) (nth T48 l (i + d + 1)) = true := by
  have hs : ∀ j, j < l.length → slotAt l j = true := by
    unfold slotsB at h
    simp only [Bool.and_eq_true] at h
    exact range_all.1 h.1
  intro d
  induction d with
  | zero =>
    intro i hi
    have := hs (i + 1) hi
    unfold slotAt at this
    simpa using (Bool.and_eq_true _ _ ▸ this).2
  | succ d ih =>
    intro i hi
    have h1 := ih i (by omega)
    have := hs (i + d + 1 + 1) (by omega)
    unfold slotAt at this
    have h2 : aheadB (nth T48 l (i + d + 1)) (nth T48 l (i + d + 1 + 1)) = true := by simpa using (Bool.and_eq_true _ _ ▸ this).2
    exact aheadB_trans h1 h2
theorem slotsB_nodup {l : List T48.D} (h : slotsB l = true) : l.Nodup := by
  unfold List.Nodup
  rw [List.pairwise_iff_getElem]
  intro i j hi hj hij e
  have := slotsB_ahead h (j - i - 1) i (by omega)
  rw [show i + (j - i - 1) + 1 = j by omega] at this
  have e1 : nth T48 l i = l[i] := by unfold nth; rw [List.getD_eq_getElem?_getD, List.getElem?_eq_getElem hi]; rfl
  have e2 : nth T48 l j = l[j] := by unfold nth; rw [List.getD_eq_getElem?_getD, List.getElem?_eq_getElem hj]; rfl
  rw [e1, e2, e, aheadB_irrefl] at this
  cases this
theorem flat_nodup {α : Type} {ls : List (List α)} (h : ∀ l ∈ ls, l.Nodup) : ls.flatten.Nodup ↔ ∀ i, i < ls.length → ∀ k, k < i → ∀ x ∈ ls.getD i [], x ∉ ls.getD k [] := by
  unfold List.Nodup
  rw [List.pairwise_flatten, List.pairwise_iff_getElem]
  have hg : ∀ i (hi : i < ls.length), ls.getD i [] = ls[i] := fun i hi => by rw [List.getD_eq_getElem?_getD, List.getElem?_eq_getElem hi]; rfl
  constructor
  · rintro ⟨_, h2⟩ i hi k hk x hx hx2
    rw [hg i hi] at hx
    rw [hg k (by omega)] at hx2
    exact h2 k i (by omega) hi hk x hx2 x hx rfl
  · intro h2
    refine ⟨h, fun i j hi hj hij x hx y hy e => ?_⟩
    subst e
    exact h2 j hj i hij x (by rw [hg j hj]; exact hy) (by rw [hg i hi]; exact hx)
abbrev mName (m : T126.D) : List UInt8 := m.1
abbrev mStat (m : T126.D) : List UInt8 := m.2.1
abbrev mOwns (m : T126.D) : List T48.D := m.2.2.2.2.2.1
abbrev mTarg (m : T126.D) : List T48.D := m.2.2.2.2.2.2
def memB (now round : Int) (m : T126.D) : Bool :=
  nameB m.1 && (decide (m.2.1 = []) || nameB m.2.1) && namesB m.2.2.1 20 && inB m.2.2.2.1 0 now && inB m.2.2.2.2.1 0 round && slotsB m.2.2.2.2.2.1 && slotsB m.2.2.2.2.2.2
/-- Member 'i' among those ahead. -/
def memAt (now round : Int) (ms : List T126.D) (i : Nat) : Bool :=
  memB now round (nth T126 ms i) && (decide (i = 0) || sLt (nth T126 ms (i - 1)).1 (nth T126 ms i).1)
def statAt (ms : List T126.D) (i : Nat) : Bool := decide ((nth T126 ms i).2.1 = []) || (List.range i).all fun k => decide ((nth T126 ms k).2.1 ≠ (nth T126 ms i).2.1)
def grpH (g : T60.D) : Bool := inB g.1 1 3 && inB g.2.1 1 1000000000000 && inB g.2.2.1 0 1000000000000 && inB g.2.2.2.1 0 1000000000 && topicsB g.2.2.2.2.1 && decide ((g.2.2.2.2.2.length : Int) ≤ 30)
def groupB (g : T60.D) : Bool :=
  grpH g && (List.range g.2.2.2.2.2.length).all (fun i => memAt g.2.2.1 g.2.2.2.1 g.2.2.2.2.2 i && statAt g.2.2.2.2.2 i) &&
  decide ((g.2.2.2.2.2.map mOwns).flatten).Nodup && decide ((g.2.2.2.2.2.map mTarg).flatten).Nodup
def wGrp : Spec [(true, T60)] := ⟨fun x => x.1.2.2.2.2.1.length ≤ 1048576, fun x _ => .bool (groupB x.1), fun _ => []⟩
def wTime : Spec [(false, .int .i64)] := ⟨fun _ => True, fun x _ => .bool (inB x.1 0 1000000000000), fun _ => []⟩
def wOff : Spec [(false, .int .i64)] := ⟨fun _ => True, fun x _ => .bool (inB x.1 0 1000000000), fun _ => []⟩
theorem f81_ok : FSpecOk Try.prog 81 wTime := by
  intro x n hp
  obtain ⟨a, u⟩ := x; change Int at a
  refine FnOk_intro [.one .w] Try.func81 rfl ?_
  intro hw C hC
  refine ACode_ok (τ := tau) (noC_ok : CtrsOk Try.prog noC) mixed _ _ _ ?_
  simp [Try.f81, wTime, inB]
  simp [↓retQ_ret, ↓retQ_normal]
theorem f82_ok : FSpecOk Try.prog 82 wOff := by
  intro x n hp
  obtain ⟨a, u⟩ := x; change Int at a
  refine FnOk_intro [.one .w] Try.func82 rfl ?_
  intro hw C hC
  refine ACode_ok (τ := tau) (noC_ok : CtrsOk Try.prog noC) mixed _ _ _ ?_
  simp [Try.f82, wOff, inB]
  simp [↓retQ_ret, ↓retQ_normal]
theorem f85_ok' : FSpecOk Try.prog 85 wSlots := f85_ok f143_ok
theorem mput_mem {K : Ty} (hk : ∀ a b, (keq K a b = true) = (a = b)) {k : K.D} : ∀ {l : List K.D}, k ∈ l → l.Nodup → mput (V := .bool) (setM l) k true = setM l
  | [], h, _ => by cases h
  | x :: l, h, hn => by
    show (if keq K x k = true then (k, true) :: setM l else (x, true) :: mput (V := .bool) (setM l) k true) = (x, true) :: setM l
    by_cases e : keq K x k = true
    · rw [if_pos e]
      have : x = k := by rw [hk] at e; exact e
      rw [this]
    · rw [if_neg e]
      have hne : ¬ x = k := fun e2 => e (by rw [hk]; exact e2)
      have hm : k ∈ l := by
        rcases List.mem_cons.1 h with h | h
        · exact absurd h.symm hne
        · exact h
      rw [mput_mem hk hm (List.nodup_cons.1 hn).2]
end Go.Proofs.Ytfinneebcfcdjaa
