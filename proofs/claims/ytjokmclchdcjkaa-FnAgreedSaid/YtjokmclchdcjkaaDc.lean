/- Agree: alike whoever asks. -/
import Derived.Test.YtjokmclchdcjkaaAb
namespace Go.Proofs.Ytjokmclchdcjkaa
open Go Go.RowKit
set_option linter.all false
theorem agF_comm (a b : T42.D) : agF a b = agF b a := by
  obtain ⟨a1, a2, a3⟩ := a; obtain ⟨b1, b2, b3⟩ := b
  change Int at a1 a2 a3 b1 b2 b3
  have hm : min a3 b3 = min b3 a3 := Int.min_comm a3 b3
  show (if a1 = b1 ∧ a2 ≤ min a3 b3 ∧ b2 ≤ min a3 b3 then [((a1, min a3 b3, min a3 b3) : T42.D)] else []) = (if b1 = a1 ∧ b2 ≤ min b3 a3 ∧ a2 ≤ min b3 a3 then [(b1, min b3 a3, min b3 a3)] else [])
  rw [← hm]
  by_cases h : a1 = b1 ∧ a2 ≤ min a3 b3 ∧ b2 ≤ min a3 b3
  · rw [if_pos h, if_pos ⟨h.1.symm, h.2.2, h.2.1⟩, h.1]
  · rw [if_neg h, if_neg fun k => h ⟨k.1.symm, k.2.2, k.2.1⟩]
theorem mem_agF {a b v : T42.D} (h : v ∈ agF a b) : iv v.1 = iv a.1 ∧ iv a.1 = iv b.1 ∧ iv v.2.1 = iv v.2.2 ∧ iv v.2.2 ≤ iv a.2.2 ∧ iv a.2.1 ≤ iv v.2.2 := by
  obtain ⟨a1, a2, a3⟩ := a; obtain ⟨b1, b2, b3⟩ := b
  change Int at a1 a2 a3 b1 b2 b3
  have h : v ∈ (if a1 = b1 ∧ a2 ≤ min a3 b3 ∧ b2 ≤ min a3 b3 then [((a1, min a3 b3, min a3 b3) : T42.D)] else []) := h
  split at h
  · rename_i hc
    rw [List.mem_singleton] at h; subst h
    exact ⟨rfl, hc.1, rfl, Int.min_le_left _ _, hc.2.1⟩
  · cases h
theorem mem_agL {c s : List T42.D} {v : T42.D} : v ∈ agL c s ↔ ∃ a ∈ c, ∃ b ∈ s, v ∈ agF a b := by
  unfold agL agR
  simp only [List.mem_flatMap]
def Srt (l : List T42.D) : Prop := l.Pairwise fun u v => iv u.1 < iv v.1
theorem srt_ext : ∀ {l m : List T42.D}, Srt l → Srt m → (∀ v, v ∈ l ↔ v ∈ m) → l = m
  | [], [], _, _, _ => rfl
  | [], y :: m, _, _, h => by have := (h y).2 (List.mem_cons_self ..); cases this
  | x :: l, [], _, _, h => by have := (h x).1 (List.mem_cons_self ..); cases this
  | x :: l, y :: m, hl, hm, h => by
    obtain ⟨l1, l2⟩ := List.pairwise_cons.1 hl
    obtain ⟨m1, m2⟩ := List.pairwise_cons.1 hm
    have hxy : x = y := by
      rcases List.mem_cons.1 ((h x).1 (List.mem_cons_self ..)) with e | e
      · exact e
      · rcases List.mem_cons.1 ((h y).2 (List.mem_cons_self ..)) with f | f
        · exact f.symm
        · have := m1 x e; have := l1 y f; omega
    subst hxy
    have := srt_ext l2 m2 fun v => by
      constructor
      · intro hv
        rcases List.mem_cons.1 ((h v).1 (List.mem_cons_of_mem _ hv)) with e | e
        · subst e; have := l1 v hv; omega
        · exact e
      · intro hv
        rcases List.mem_cons.1 ((h v).2 (List.mem_cons_of_mem _ hv)) with e | e
        · subst e; have := m1 v hv; omega
        · exact e
    rw [this]
theorem agR_one {a : T42.D} : ∀ {s : List T42.D}, Srt s → (agR a s).length ≤ 1 ∧ ∀ v ∈ agR a s, iv v.1 = iv a.1
  | [], _ => ⟨by simp [agR], fun v hv => by simp [agR] at hv⟩
  | b :: s, h => by
    obtain ⟨h1, h2⟩ := List.pairwise_cons.1 h
    obtain ⟨i1, i2⟩ := agR_one (a := a) h2
    have e : agR a (b :: s) = agF a b ++ agR a s := rfl
    refine ⟨?_, fun v hv => ?_⟩
    · rw [e, List.length_append]
      have hl := agF_len a b
      by_cases hz : agF a b = []
      · rw [hz]; simpa using i1
      · have : agR a s = [] := by
          obtain ⟨v, hv⟩ := List.exists_mem_of_ne_nil _ hz
          have k := mem_agF hv
          cases hr : agR a s with
          | nil => rfl
          | cons w ws =>
            have hw : w ∈ agR a s := by rw [hr]; exact List.mem_cons_self ..
            have hw' : w ∈ s.flatMap (agF a) := hw
            obtain ⟨b', hb', hwb⟩ := List.mem_flatMap.1 hw'
            have k2 := mem_agF hwb
            have := h1 b' hb'
            omega
        rw [this]; simpa using hl
    · rw [e, List.mem_append] at hv
      rcases hv with hv | hv
      · exact (mem_agF hv).1
      · exact i2 v hv
theorem agL_srt {s : List T42.D} (hs : Srt s) : ∀ {c : List T42.D}, Srt c → Srt (agL c s)
  | [], _ => List.Pairwise.nil
  | a :: c, h => by
    obtain ⟨h1, h2⟩ := List.pairwise_cons.1 h
    have ih := agL_srt hs h2
    obtain ⟨i1, i2⟩ := agR_one (a := a) hs
    show (agR a s ++ agL c s).Pairwise _
    rw [List.pairwise_append]
    refine ⟨?_, ih, fun u hu v hv => ?_⟩
    · cases hr : agR a s with
      | nil => exact List.Pairwise.nil
      | cons w ws =>
        rw [hr] at i1
        cases ws with
        | nil => exact List.pairwise_singleton _ _
        | cons _ _ => simp at i1
    · have e1 := i2 u hu
      obtain ⟨a', ha', b', _, hv'⟩ := mem_agL.1 hv
      have e2 := (mem_agF hv').1
      have := h1 a' ha'
      show iv u.1 < iv v.1
      omega
theorem apOk_srt {l : List T42.D} (h : apOk l = true) : Srt l := by
  unfold apOk at h
  simp only [Bool.and_eq_true, List.all_eq_true, List.mem_range] at h
  have h := h.2
  have hadj : ∀ i, i + 1 < l.length → iv (nth T42 l i).1 < iv (nth T42 l (i + 1)).1 := fun i hi => by
    have := h (i + 1) hi
    unfold apAt at this
    simp only [Bool.and_eq_true, Bool.or_eq_true, decide_eq_true_eq] at this
    rcases this.1.2 with e | e
    · omega
    · simpa using e
  have hall : ∀ j i, i < j → j < l.length → iv (nth T42 l i).1 < iv (nth T42 l j).1 := by
    intro j
    induction j with
    | zero => intro i hi; omega
    | succ j ih =>
      intro i hi hj
      have h1 := hadj j hj
      by_cases e : i = j
      · subst e; exact h1
      · have := ih i (by omega) (by omega)
        omega
  refine List.pairwise_iff_getElem.2 fun i j hi hj hij => ?_
  have e : ∀ k (hk : k < l.length), nth T42 l k = l[k] := fun k hk => by unfold nth; rw [List.getD_eq_getElem?_getD, List.getElem?_eq_getElem hk]; rfl
  have := hall j i hij hj
  rw [e i hi, e j hj] at this
  exact this
theorem agB_comm (a b : List T42.D) : agB a b = agB b a := by unfold agB; exact Bool.and_comm _ _
theorem agree_comm (a b : List T42.D) : agree a b = agree b a := by
  unfold agree
  rw [agB_comm b a]
  by_cases h : agB a b = true
  · rw [if_pos h, if_pos h]
    unfold agB at h
    simp only [Bool.and_eq_true] at h
    have sa := apOk_srt h.1
    have sb := apOk_srt h.2
    refine srt_ext (agL_srt sb sa) (agL_srt sa sb) fun v => ?_
    rw [mem_agL, mem_agL]
    constructor
    · rintro ⟨x, hx, y, hy, hv⟩; exact ⟨y, hy, x, hx, by rw [agF_comm]; exact hv⟩
    · rintro ⟨x, hx, y, hy, hv⟩; exact ⟨y, hy, x, hx, by rw [agF_comm]; exact hv⟩
  · rw [if_neg h, if_neg h]
theorem agree_len (a b : List T42.D) : (agree a b).length ≤ 1600 := by
  unfold agree
  split
  · rename_i h
    unfold agB at h
    simp only [Bool.and_eq_true] at h
    have l1 := apOk_len h.1
    have l2 := apOk_len h.2
    have := agL_len a b
    have := Nat.mul_le_mul l1 l2
    omega
  · simp
theorem agree_eq {a b : List T42.D} {i : Nat} (hi : i < (agree a b).length) : iv (nth T42 (agree a b) i).2.1 = iv (nth T42 (agree a b) i).2.2 := by
  have e : ∀ {l : List T42.D} {k : Nat} (hk : k < l.length), nth T42 l k = l[k] := fun {l k} hk => by unfold nth; rw [List.getD_eq_getElem?_getD, List.getElem?_eq_getElem hk]; rfl
  have hm : nth T42 (agree a b) i ∈ agree a b := by rw [e hi]; exact List.getElem_mem hi
  generalize nth T42 (agree a b) i = v at *
  unfold agree at hm
  split at hm
  · obtain ⟨x, hx, z, hz, hv⟩ := mem_agL.1 hm
    exact (mem_agF hv).2.2.1
  · cases hm
/-- What a version that both agree on is for the one side. -/
theorem agree_at {a b : List T42.D} {i k : Nat} (hi : i < (agree a b).length) (hk : k < a.length) :
    iv (nth T42 (agree a b) i).2.1 = iv (nth T42 (agree a b) i).2.2 ∧ (iv (nth T42 a k).1 = iv (nth T42 (agree a b) i).1 → iv (nth T42 (agree a b) i).2.2 ≤ iv (nth T42 a k).2.2 ∧ iv (nth T42 a k).2.1 ≤ iv (nth T42 (agree a b) i).2.2) := by
  have e : ∀ {l : List T42.D} {k : Nat} (hk : k < l.length), nth T42 l k = l[k] := fun {l k} hk => by unfold nth; rw [List.getD_eq_getElem?_getD, List.getElem?_eq_getElem hk]; rfl
  have hm : nth T42 (agree a b) i ∈ agree a b := by rw [e hi]; exact List.getElem_mem hi
  have hk' : nth T42 a k ∈ a := by rw [e hk]; exact List.getElem_mem hk
  generalize nth T42 (agree a b) i = v at *
  generalize nth T42 a k = y at *
  unfold agree at hm
  split at hm
  · rename_i h
    unfold agB at h
    simp only [Bool.and_eq_true] at h
    have sa := apOk_srt h.1
    obtain ⟨x, hx, z, hz, hv⟩ := mem_agL.1 hm
    have q := mem_agF hv
    refine ⟨q.2.2.1, fun hy => ?_⟩
    have : x = y := by
      obtain ⟨p, hp, rfl⟩ := List.mem_iff_getElem.1 hx
      obtain ⟨r, hr, rfl⟩ := List.mem_iff_getElem.1 hk'
      have hpr := List.pairwise_iff_getElem.1 sa
      rcases Nat.lt_trichotomy p r with h | h | h
      · have := hpr p r hp hr h; omega
      · subst h; rfl
      · have := hpr r p hr hp h; omega
    subst this
    exact ⟨q.2.2.2.1, q.2.2.2.2⟩
  · cases hm
end Go.Proofs.Ytjokmclchdcjkaa
