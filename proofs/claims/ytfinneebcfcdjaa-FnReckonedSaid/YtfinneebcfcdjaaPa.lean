/- Expressions put together: the plain law of FnReckoned. -/
import Derived.Test.YtfinneebcfcdjaaNi
namespace Go.Proofs.Ytfinneebcfcdjaa
open Go Go.RowKit
set_option linter.all false
theorem nthI_append {p s : IL} {i : Nat} : nth (.int .i64) (p ++ s) (p.length + i) = nth (.int .i64) s i := by
  unfold nth; rw [List.getD_eq_getElem?_getD, List.getD_eq_getElem?_getD, List.getElem?_append_right (by omega)]; congr 2; omega
theorem stE_under {c : SL} {row p s : IL} {st : T32.D} {k : Int} (h : stepF (s.length : Int) st = some k) : stE c row (p ++ s) st = p ++ stE c row s st ∧ ((stE c row s st).length : Int) = k := by
  obtain ⟨op, num, nm⟩ := st
  change Int at op num
  unfold stepF at h
  unfold stE
  simp only at h ⊢
  split at h
  · split at h
    · simp only [Option.some.injEq] at h; subst h
      rename_i h1 _
      rw [if_pos h1, if_pos h1]; simp
    · cases h
  · rename_i h1
    rw [if_neg h1, if_neg h1]
    split at h
    · split at h
      · simp only [Option.some.injEq] at h; subst h
        rename_i h2 _
        rw [if_pos h2, if_pos h2]; simp
      · cases h
    · rename_i h2
      rw [if_neg h2, if_neg h2]
      split at h
      · split at h
        · rename_i h12
          split at h
          · rename_i hm
            simp only [Option.some.injEq] at h; subst h
            rw [if_pos h12, if_pos h12]
            have e1 : (p ++ s).length - 1 = p.length + (s.length - 1) := by rw [List.length_append]; omega
            rw [e1, nthI_append, List.take_length_add_append, List.append_assoc]
            refine ⟨rfl, ?_⟩
            simp; omega
          · cases h
        · rename_i h12
          split at h
          · rename_i hm
            simp only [Option.some.injEq] at h; subst h
            rw [if_neg h12, if_neg h12]
            have e1 : (p ++ s).length - 1 = p.length + (s.length - 1) := by rw [List.length_append]; omega
            have e2 : (p ++ s).length - 2 = p.length + (s.length - 2) := by rw [List.length_append]; omega
            rw [e1, e2, nthI_append, nthI_append, List.take_length_add_append, List.append_assoc]
            refine ⟨rfl, ?_⟩
            simp; omega
          · cases h
      · cases h
theorem fold_under {c : SL} {row p : IL} : ∀ {l : List T32.D} {s : IL} {k : Int}, runS l (s.length : Int) = some k → l.foldl (stE c row) (p ++ s) = p ++ l.foldl (stE c row) s ∧ ((l.foldl (stE c row) s).length : Int) = k
  | [], s, k, h => by
    have h : some (s.length : Int) = some k := h
    simp only [Option.some.injEq] at h
    exact ⟨rfl, h⟩
  | st :: l, s, k, h => by
    have h : (stepF (s.length : Int) st).bind (runS l) = some k := h
    obtain ⟨m, h1, h2⟩ := Option.bind_eq_some_iff.1 h
    obtain ⟨e1, e2⟩ := stE_under (c := c) (row := row) (p := p) h1
    rw [List.foldl_cons, List.foldl_cons, e1]
    exact fold_under (by rw [e2]; exact h2)
theorem stepF_shift {m k j : Int} {st : T32.D} (hj : 0 ≤ j) (h : stepF m st = some k) : stepF (m + j) st = some (k + j) := by
  unfold stepF at h ⊢
  repeat' split at h
  all_goals first
    | (cases h; done)
    | (simp only [Option.some.injEq] at h; subst h; simp_all <;> omega)
theorem runS_shift {j : Int} (hj : 0 ≤ j) : ∀ {l : List T32.D} {m k : Int}, runS l m = some k → runS l (m + j) = some (k + j)
  | [], m, k, h => by
    have h : some m = some k := h
    simp only [Option.some.injEq] at h; subst h; rfl
  | st :: l, m, k, h => by
    have h : (stepF m st).bind (runS l) = some k := h
    obtain ⟨x, h1, h2⟩ := Option.bind_eq_some_iff.1 h
    show (stepF (m + j) st).bind (runS l) = some (k + j)
    rw [stepF_shift hj h1]
    exact runS_shift hj h2
theorem okE_parts {l : List T32.D} {c : SL} {row : IL} : okE l c row = true ↔ ((l.length : Int) ≤ 60 ∧ runS l 0 = some 1) ∧ c.length = row.length ∧ seesB l c = true ∧ row.all (fun n => decide (bigB n)) = true := by
  unfold okE stepsB
  simp only [Bool.and_eq_true, decide_eq_true_eq]
  constructor
  · rintro ⟨⟨⟨h1, h2⟩, h3⟩, h4⟩; exact ⟨h1, h2, h3, h4⟩
  · rintro ⟨h1, h2, h3, h4⟩; exact ⟨⟨⟨h1, h2⟩, h3⟩, h4⟩
theorem runE_one {l : List T32.D} {c : SL} {row : IL} (h : okE l c row = true) : runE c row l = [outE l c row] := by
  obtain ⟨⟨_, h1⟩, _⟩ := okE_parts.1 h
  have := (fold_under (c := c) (row := row) (p := []) (s := []) (l := l) h1).2
  have hl : (runE c row l).length = 1 := by unfold runE; omega
  obtain ⟨x, hx⟩ := List.length_eq_one_iff.1 hl
  unfold outE
  rw [if_pos h, hx]; rfl
theorem sees_append {a b : List T32.D} {c : SL} : seesB (a ++ b) c = (seesB a c && seesB b c) := by unfold seesB; rw [List.all_append]
/-- Two expressions, and what puts them together. -/
theorem okE_two {a b : List T32.D} {c : SL} {row : IL} (ha : okE a c row = true) (hb : okE b c row = true) (hl : a.length + b.length < 60) {op : Int} (ho : 3 ≤ op ∧ op ≤ 11) :
    okE (a ++ b ++ [(op, (0 : Int), ([] : List UInt8))]) c row = true ∧ outE (a ++ b ++ [(op, (0 : Int), ([] : List UInt8))]) c row = doF op (outE a c row) (outE b c row) := by
  have ra := runE_one ha
  have rb := runE_one hb
  obtain ⟨⟨_, a1⟩, a2, a3, a4⟩ := okE_parts.1 ha
  obtain ⟨⟨_, b1⟩, b2, b3, b4⟩ := okE_parts.1 hb
  have b5 := runS_shift (j := 1) (by omega) b1
  have hin : inB op 3 12 = true := by simp [inB]; omega
  have n1 : ¬ op = 1 := by omega
  have n2 : ¬ op = 2 := by omega
  have n12 : ¬ op = 12 := by omega
  have hok : okE (a ++ b ++ [(op, (0 : Int), ([] : List UInt8))]) c row = true := by
    refine okE_parts.2 ⟨⟨by simp; omega, ?_⟩, a2, ?_, a4⟩
    · rw [runS_append, runS_append, a1]
      show (runS b 1).bind _ = _
      rw [show runS b 1 = some (1 + 1) from b5]
      show (stepF (1 + 1) _).bind _ = _
      simp [stepF, n1, n2, n12, hin]
      rfl
    · rw [sees_append, sees_append, a3, b3]
      simp [seesB, seeF, n2]
  refine ⟨hok, ?_⟩
  have hr : runE c row (a ++ b ++ [(op, (0 : Int), ([] : List UInt8))]) = [doF op (outE a c row) (outE b c row)] := by
    have u := (fold_under (c := c) (row := row) (p := [outE a c row]) (s := []) (l := b) b1).1
    have e : (a ++ b).foldl (stE c row) [] = [outE a c row, outE b c row] := by
      rw [List.foldl_append]
      show b.foldl (stE c row) (runE c row a) = _
      rw [ra]
      show b.foldl (stE c row) ([outE a c row] ++ []) = _
      rw [u]
      show _ ++ runE c row b = _
      rw [rb]; rfl
    unfold runE
    rw [List.foldl_append, e]
    show stE c row [outE a c row, outE b c row] (op, 0, []) = _
    simp [stE, n1, n2, n12]
    rfl
  unfold outE at *
  rw [if_pos hok]
  rw [hr]; rfl
theorem okE_not {a : List T32.D} {c : SL} {row : IL} (ha : okE a c row = true) (hl : a.length < 60) :
    okE (a ++ [((12 : Int), (0 : Int), ([] : List UInt8))]) c row = true ∧ outE (a ++ [((12 : Int), (0 : Int), ([] : List UInt8))]) c row = truthI (decide (outE a c row = 0)) := by
  have ra := runE_one ha
  obtain ⟨⟨_, a1⟩, a2, a3, a4⟩ := okE_parts.1 ha
  have hok : okE (a ++ [((12 : Int), (0 : Int), ([] : List UInt8))]) c row = true := by
    refine okE_parts.2 ⟨⟨by simp; omega, ?_⟩, a2, ?_, a4⟩
    · rw [runS_append, a1]; rfl
    · rw [sees_append, a3]; rfl
  refine ⟨hok, ?_⟩
  have hr : runE c row (a ++ [((12 : Int), (0 : Int), ([] : List UInt8))]) = [truthI (decide (outE a c row = 0))] := by
    unfold runE
    rw [List.foldl_append]
    show stE c row (runE c row a) (12, 0, []) = _
    rw [ra]; rfl
  unfold outE at *
  rw [if_pos hok]
  rw [hr]; rfl
theorem truthI_one {p : Prop} [Decidable p] : truthI (decide p) = 1 ↔ p := by
  by_cases h : p <;> simp [truthI, h]
theorem okE_seven : okE [((1 : Int), (7 : Int), ([] : List UInt8)), ((1 : Int), (2 : Int), ([] : List UInt8)), ((6 : Int), (0 : Int), ([] : List UInt8))] [] [] = true ∧ outE [((1 : Int), (7 : Int), ([] : List UInt8)), ((1 : Int), (2 : Int), ([] : List UInt8)), ((6 : Int), (0 : Int), ([] : List UInt8))] [] [] = 3 := by
  constructor <;> decide
end Go.Proofs.Ytfinneebcfcdjaa
