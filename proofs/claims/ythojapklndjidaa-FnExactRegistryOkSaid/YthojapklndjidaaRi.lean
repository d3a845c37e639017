/- Registries: the plain count, and the walk of the program's RegistryOk. -/
import Derived.Test.YthojapklndjidaaRh
namespace Go.Proofs.Ythojapklndjidaa
open Go Go.RowKit
set_option linter.all false
set_option pp.deepTerms true
set_option pp.maxSteps 200000
set_option maxRecDepth 100000
set_option maxHeartbeats 8000000
theorem nth_get {T : Ty} {l : List T.D} {k : Nat} (h : k < l.length) : nth T l k = l[k] := by
  unfold nth; rw [List.getD_eq_getElem?_getD, List.getElem?_eq_getElem h]; rfl
theorem nodup_sub : ∀ {a b : List Int}, a.Nodup → (∀ x ∈ a, x ∈ b) → a.length ≤ b.length
  | [], _, _, _ => by simp
  | x :: a, b, h, hs => by
    rw [List.nodup_cons] at h
    have ih := nodup_sub (a := a) (b := b.erase x) h.2 fun y hy => by
      have hne : y ≠ x := fun e => h.1 (e ▸ hy)
      exact (List.mem_erase_of_ne hne).2 (hs y (by simp [hy]))
    have hx : x ∈ b := hs x (by simp)
    have h1 := List.length_erase_of_mem hx
    have h2 : 0 < b.length := List.length_pos_iff.2 (fun e => by rw [e] at hx; cases hx)
    simp only [List.length_cons]
    omega
def addK (K : List Int) (v : Int) : List Int := if v ∈ K then K else K ++ [v]
theorem mput_in {k : Int} : ∀ {l : List Int}, k ∈ l → mput (K := .int .i64) (V := .bool) (setM (K := .int .i64) l) k true = setM (K := .int .i64) l
  | [], h => by cases h
  | a :: l, h => by
    show (if keq (.int .i64) a k = true then (k, true) :: setM (K := .int .i64) l else (a, true) :: mput (K := .int .i64) (V := .bool) (setM (K := .int .i64) l) k true) = (a, true) :: setM (K := .int .i64) l
    by_cases e : a = k
    · rw [if_pos (by rw [keq_int]; exact e), e]
    · rw [if_neg (by rw [keq_int]; exact e), mput_in (by rcases List.mem_cons.1 h with h | h; exact absurd h.symm e; exact h)]
theorem mput_add (K : List Int) (v : Int) : mput (K := .int .i64) (V := .bool) (setM (K := .int .i64) K) v true = setM (K := .int .i64) (addK K v) := by
  unfold addK
  split
  · rename_i h; exact mput_in h
  · rename_i h; exact mput_set (K := .int .i64) (fun a b => keq_int) h
theorem addK_nodup {K : List Int} (h : K.Nodup) (v : Int) : (addK K v).Nodup := by
  unfold addK
  split
  · exact h
  · rename_i hv
    rw [List.nodup_append]
    exact ⟨h, by simp, fun a ha b hb => by simp at hb; subst hb; exact fun e => hv (e ▸ ha)⟩
theorem mem_addK {K : List Int} {v x : Int} : x ∈ addK K v ↔ x ∈ K ∨ x = v := by
  unfold addK
  split
  · rename_i h
    exact ⟨.inl, fun h1 => h1.elim id fun e => e ▸ h⟩
  · simp
theorem reg_k400 {S : List T32.D} {J : List T101.D} {K : List Int} (hJ : J.length ≤ 20) (hs : ∀ i, i < J.length → SubOk S J i) (hn : K.Nodup) (hK : ∀ v, v ∈ K ↔ Used J J.length v) : K.length ≤ 400 := by
  have h1 := nodup_sub (b := J.flatMap fun s => (show List Int from s.2.2)) hn fun v hv => by
    obtain ⟨j, hj, hm⟩ := (hK v).1 hv
    exact List.mem_flatMap.2 ⟨_, nth_mem101 hj, hm⟩
  have h2 : ∀ (l : List T101.D), (∀ s ∈ l, List.length s.2.2 ≤ 20) → (l.flatMap fun s => (show List Int from s.2.2)).length ≤ 20 * l.length := by
    intro l hl
    induction l with
    | nil => simp
    | cons a l ih =>
      have h3 := ih fun s hs => hl s (by simp [hs])
      have h4 : List.length (show List Int from a.2.2) ≤ 20 := hl a (by simp)
      rw [List.flatMap_cons, List.length_append, List.length_cons]
      omega
  have h3 := h2 J fun s hsm => by
    obtain ⟨i, hi, e⟩ := List.mem_iff_getElem.1 hsm
    have h4 := (hs i hi).1.2.2.2
    have h5 : nth T101 J i = s := by unfold nth; rw [List.getD_eq_getElem?_getD, List.getElem?_eq_getElem hi]; simpa using e
    rw [h5] at h4; exact h4
  omega
/-- The used ones are as many as the schemas where each one is used, and only there. -/
theorem reg_count {S : List T32.D} {J : List T101.D} {K : List Int} (hJ : J.length ≤ 20) (hS : ∀ i, i < S.length → SchOk S i) (hs : ∀ i, i < J.length → SubOk S J i) (hn : K.Nodup) (hK : ∀ v, v ∈ K ↔ Used J J.length v) : K.length = S.length ↔ RegP S J := by
  have hin : ∀ v ∈ K, 1 ≤ v ∧ v ≤ (S.length : Int) := fun v hv => by
    obtain ⟨j, hj, hm⟩ := (hK v).1 hv
    obtain ⟨_, h1, _⟩ := hs j hj
    obtain ⟨k, hk, e⟩ := List.mem_iff_getElem.1 hm
    have := h1 k hk
    have h2 : nth (.int .i64) (nth T101 J j).2.2 k = v := (nth_get (T := .int .i64) hk).trans e
    unfold VerIn vAt at this
    rw [h2] at this
    exact ⟨this.1, this.2.1⟩
  have hR : ∀ v : Int, v ∈ (List.range S.length).map (fun j : Nat => (j : Int) + 1) ↔ (1 ≤ v ∧ v ≤ S.length) := fun v => by
    simp only [List.mem_map, List.mem_range]
    constructor
    · rintro ⟨j, hj, rfl⟩; omega
    · rintro ⟨h1, h2⟩; exact ⟨(v - 1).toNat, by omega, by omega⟩
  have hRn : ((List.range S.length).map (fun j : Nat => (j : Int) + 1)).Nodup := by
    rw [List.nodup_iff_pairwise_ne, List.pairwise_map]
    exact (List.nodup_iff_pairwise_ne.1 List.nodup_range).imp fun h e => h (by omega)
  have h400 := reg_k400 hJ hs hn hK
  constructor
  · intro e
    refine ⟨by omega, hJ, hS, hs, fun j hj => (hK _).1 ?_⟩
    refine Classical.byContradiction fun hno => ?_
    have h1 := nodup_sub (a := ((j : Int) + 1) :: K) (b := (List.range S.length).map (fun j : Nat => (j : Int) + 1)) (by rw [List.nodup_cons]; exact ⟨hno, hn⟩) fun x hx => by
      rcases List.mem_cons.1 hx with rfl | hx
      · exact (hR _).2 (by omega)
      · exact (hR _).2 (hin x hx)
    simp only [List.length_cons, List.length_map, List.length_range] at h1
    omega
  · rintro ⟨_, _, _, _, hu⟩
    have h1 := nodup_sub (a := K) (b := (List.range S.length).map (fun j : Nat => (j : Int) + 1)) hn fun x hx => (hR _).2 (hin x hx)
    have h2 := nodup_sub (a := (List.range S.length).map (fun j : Nat => (j : Int) + 1)) (b := K) hRn fun x hx => by
      obtain ⟨j, hj, rfl⟩ := List.mem_map.1 hx
      exact (hK _).2 (hu j (List.mem_range.1 hj))
    simp only [List.length_map, List.length_range] at h1 h2
    omega
end Go.Proofs.Ythojapklndjidaa
