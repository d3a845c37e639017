/- Inside of the laws' side. -/
import Derived.Test.YtfinneebcfcdjaaIa
import Derived.Test.YtfinneebcfcdjaaNe
namespace Go.Proofs.Ytfinneebcfcdjaa
open Go Go.RowKit
set_option linter.all false
set_option pp.deepTerms true
set_option pp.maxSteps 200000
set_option maxRecDepth 100000
set_option maxHeartbeats 8000000
abbrev qFrom (q : T74.D) : List UInt8 := q.1
abbrev qJoin (q : T74.D) : List UInt8 := q.2.1
abbrev qOn (q : T74.D) : List UInt8 := q.2.2.2.1
abbrev qLook (q : T74.D) : List UInt8 := q.2.2.2.2.1
abbrev qWhere (q : T74.D) : List T32.D := q.2.2.2.2.2.1
abbrev qGroups (q : T74.D) : SL := q.2.2.2.2.2.2.1
abbrev qGets (q : T74.D) : List T144.D := q.2.2.2.2.2.2.2.2.2.2
def okSrc (q : T74.D) (l : List T142.D) : Prop := queryB q = true ∧ srcsB l = true
def okFrom (q : T74.D) (l : List T142.D) : Prop := 0 ≤ srcAt l (qFrom q) ∧ (nth T142 l (srcAt l (qFrom q)).toNat).2.1 = false
def cols0 (q : T74.D) (l : List T142.D) : SL := (nth T142 l (srcAt l (qFrom q)).toNat).2.2
def jI (q : T74.D) (l : List T142.D) : Int := srcAt l (qJoin q ++ qLook q)
def jSrc (q : T74.D) (l : List T142.D) : T142.D := nth T142 l (jI q l).toNat
def okJoin (q : T74.D) (l : List T142.D) : Prop := qOn q = [] ∨ (0 ≤ jI q l ∧ ((jSrc q l).2.1 = true ↔ ¬ qLook q = []) ∧ qOn q ∈ cols0 q l ∧ qOn q ∈ (jSrc q l).2.2 ∧ (qLook q = [] ∨ nth Ty.str (jSrc q l).2.2 0 = qOn q))
def others (q : T74.D) (cs : SL) : SL := cs.filter fun c => decide (¬ c = qOn q)
def cols1 (q : T74.D) (l : List T142.D) : SL := if qOn q = [] then cols0 q l else cols0 q l ++ others q (jSrc q l).2.2
def okCols (q : T74.D) (l : List T142.D) : Prop := (cols1 q l).Nodup ∧ (cols1 q l).length ≤ 12 ∧ seesB (qWhere q) (cols1 q l) = true
def okGroups (q : T74.D) (l : List T142.D) : Prop := ∀ j, j < (qGroups q).length → nth Ty.str (qGroups q) j ∈ cols1 q l
def okGets (q : T74.D) (l : List T142.D) : Prop := ∀ j, j < (qGets q).length → seesB (nth T144 (qGets q) j).2.1 (cols1 q l) = true
def okAll (q : T74.D) (l : List T142.D) : Prop := okSrc q l ∧ okFrom q l ∧ okJoin q l ∧ okCols q l ∧ okGroups q l ∧ okGets q l
noncomputable def insideL (q : T74.D) (l : List T142.D) : SL := @ite _ (okAll q l) (Classical.propDecidable _) (cols1 q l) []
theorem inside_no {q : T74.D} {l : List T142.D} (h : ¬ okAll q l) : insideL q l = [] := by unfold insideL; rw [if_neg h]
theorem inside_yes {q : T74.D} {l : List T142.D} (h : okAll q l) : insideL q l = cols1 q l := by unfold insideL; rw [if_pos h]
noncomputable def wIns : Spec [(true, T74), (false, .sl T142)] := ⟨fun _ => True, fun x n => .osl n (insideL x.1 x.2.1).length, fun x => [.arr .str 9 (insideL x.1 x.2.1)]⟩
theorem srcAt_lt {l : List T142.D} {q : List UInt8} (h : 0 ≤ srcAt l q) : (srcAt l q).toNat < l.length := by
  have := (idxZ_lt (l := srcNames l) (q := q)).2
  unfold srcAt at h ⊢
  simp only [List.length_map] at this
  omega
theorem src_cols {l : List T142.D} {i : Nat} (h : srcsB l = true) (hi : i < l.length) : 1 ≤ (nth T142 l i).2.2.length ∧ (nth T142 l i).2.2.length ≤ 12 ∧ ((nth T142 l i).2.2 : SL).Nodup := by
  unfold srcsB at h
  simp only [Bool.and_eq_true] at h
  have := (all_nth (T := T142) (p := srcB)).1 h.1.2 i hi
  unfold srcB colsB inB at this
  simp only [Bool.and_eq_true, decide_eq_true_eq] at this
  exact ⟨by omega, by omega, this.2.2⟩
theorem others_take {q : T74.D} {cs : SL} {i : Nat} (h : i < cs.length) : others q (cs.take (i + 1)) = others q (cs.take i) ++ (if nth Ty.str cs i = qOn q then [] else [nth Ty.str cs i]) := by
  unfold others
  rw [take_nth (T := .str) h, List.filter_append]
  congr 1
  by_cases e : nth Ty.str cs i = qOn q
  · simp [e]
  · simp [e]
theorem others_len (q : T74.D) (cs : SL) : (others q cs).length ≤ cs.length := List.length_filter_le _ _
theorem join_len {q : T74.D} (h : queryB q = true) : (qJoin q).length + (qLook q).length ≤ 20 := by
  have : Q1 q := by
    have := h
    unfold queryB at this
    simp only [decide_eq_true_eq] at this
    exact this.1
  obtain ⟨_, h1, h2, h3⟩ := this
  have hn : ∀ s, nameB s = true → s.length ≤ 20 := fun s h => by
    unfold nameB at h
    simp only [Bool.and_eq_true, decide_eq_true_eq] at h
    omega
  unfold qJoin qLook
  rcases h3 with h3 | h3
  · rw [h3]
    rcases h2 with h2 | h2
    · rw [h2]; simp
    · have := hn _ h2; simp; omega
  · rw [h3]
    rcases h1 with h1 | h1
    · rw [h1]; simp
    · have := hn _ h1; simp; omega
end Go.Proofs.Ytfinneebcfcdjaa
