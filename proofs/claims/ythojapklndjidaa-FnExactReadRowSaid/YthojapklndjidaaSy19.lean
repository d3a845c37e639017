/- Small laws for what a walk leaves. -/
import Derived.Test.YthojapklndjidaaSy18
namespace Go.Proofs.Ythojapklndjidaa
open Go Go.RowKit
set_option linter.unusedVariables false
set_option linter.all false

theorem wrap64_id {e : Int} (h : -9223372036854775808 ≤ e ∧ e ≤ 9223372036854775807) : IntKind.wrap .i64 e = e := by
  have h' : inR .i64 e := h
  simp [IntKind.wrap, IntKind.bits, IntKind.signed]
  omega
theorem wrap64_wrap {e : Int} : IntKind.wrap .i64 (IntKind.wrap .i64 e) = IntKind.wrap .i64 e := by
  simp [IntKind.wrap, IntKind.bits, IntKind.signed]
  omega
theorem wrap64_in (e : Int) : -9223372036854775808 ≤ IntKind.wrap .i64 e ∧ IntKind.wrap .i64 e ≤ 9223372036854775807 := by
  simp [IntKind.wrap, IntKind.bits, IntKind.signed]
  omega
theorem take_set {α : Type} {l : List α} {d : α} {i : Nat} (h : i < l.length) : (l.take i ++ List.replicate (l.length - i) d).set i (l.getD i d) = l.take (i + 1) ++ List.replicate (l.length - (i + 1)) d := by
  have e : l.length - i = (l.length - (i + 1)) + 1 := by omega
  have h1 : l.take (i + 1) = l.take i ++ [l[i]] := by rw [List.take_add_one, List.getElem?_eq_getElem h]; rfl
  have h2 : (l.take i).length = i := by rw [List.length_take]; omega
  have h3 : l.getD i d = l[i] := by rw [List.getD_eq_getElem?_getD, List.getElem?_eq_getElem h]; rfl
  rw [e, List.replicate_succ, List.set_append_right _ _ (by omega), h1, h2, Nat.sub_self, List.set_cons_zero, h3, List.append_assoc]
  rfl

/-! ### How much a datum holds -/

def sz : (T : Ty) → T.D → Nat
  | .str, s => s.length
  | .pair a b, x => sz a x.1 + sz b x.2
  | .sl e, xs => xs.length + (xs.map (sz e)).sum
  | _, _ => 0
def szL (e : Ty) (xs : List e.D) : Nat := (xs.map (sz e)).sum
theorem szL_nil (e : Ty) : szL e [] = 0 := rfl
theorem szL_cons (e : Ty) (x : e.D) (xs : List e.D) : szL e (x :: xs) = sz e x + szL e xs := by simp [szL]
def szr (t : Nat) (left : Int) : Int := if (t : Int) ≤ left then left - t else -1

def Bnd : (T : Ty) → T.D → Prop
  | .str, s => s.length ≤ 1048576
  | .pair a b, x => Bnd a x.1 ∧ Bnd b x.2
  | .sl e, xs => xs.length ≤ 1048576 ∧ ∀ i, i < xs.length → Bnd e (xs.getD i e.dflt)
  | _, _ => True
theorem sz_get {e : Ty} : ∀ {xs : List e.D} {i : Nat}, i < xs.length → sz e (xs.getD i e.dflt) ≤ szL e xs
  | [], i, h => by simp at h
  | x :: xs, 0, h => by rw [szL_cons]; exact Nat.le_add_right _ _
  | x :: xs, i + 1, h => by
    have := sz_get (xs := xs) (i := i) (by simpa using h)
    rw [szL_cons, List.getD_cons_succ]; omega
theorem bnd_of_sz : ∀ (T : Ty) (x : T.D), sz T x ≤ 1048576 → Bnd T x
  | .str, s, h => h
  | .pair a b, x, h => ⟨bnd_of_sz a x.1 (by unfold sz at h; omega), bnd_of_sz b x.2 (by unfold sz at h; omega)⟩
  | .sl e, xs, h => by
    have h' : xs.length + szL e xs ≤ 1048576 := h
    exact ⟨by omega, fun i hi => bnd_of_sz e _ (Nat.le_trans (sz_get hi) (by omega))⟩
  | .int _, _, _ => trivial
  | .byte, _, _ => trivial
  | .bool, _, _ => trivial
  | .unit, _, _ => trivial
theorem szL_take {e : Ty} : ∀ {xs : List e.D} {i : Nat}, i < xs.length → szL e (xs.take (i + 1)) = szL e (xs.take i) + sz e (xs.getD i e.dflt)
  | [], i, h => by simp at h
  | x :: xs, 0, h => by rw [List.take_succ_cons, List.take_zero, szL_cons, szL_nil]; simp [szL_nil]
  | x :: xs, i + 1, h => by
    have := szL_take (xs := xs) (i := i) (by simpa using h)
    rw [List.take_succ_cons, List.take_succ_cons, szL_cons, szL_cons, List.getD_cons_succ, this]; omega
theorem szL_le {e : Ty} : ∀ {xs : List e.D} {i : Nat}, szL e (xs.take i) ≤ szL e xs
  | [], i => by simp
  | x :: xs, 0 => by rw [List.take_zero, szL_nil]; exact Nat.zero_le _
  | x :: xs, i + 1 => by have := szL_le (xs := xs) (i := i); rw [List.take_succ_cons, szL_cons, szL_cons]; omega

theorem take_eq_succ {α : Type} {l m : List α} {d : α} {i : Nat} (hl : i < l.length) (hm : l.length = m.length) (h : l.take i = m.take i) (he : l.getD i d = m.getD i d) : l.take (i + 1) = m.take (i + 1) := by
  rw [List.getD_eq_getElem?_getD, List.getD_eq_getElem?_getD, List.getElem?_eq_getElem hl, List.getElem?_eq_getElem (by omega : i < m.length)] at he
  have e1 : l.take (i + 1) = l.take i ++ [l[i]] := by rw [List.take_add_one, List.getElem?_eq_getElem hl]; rfl
  have e2 : m.take (i + 1) = m.take i ++ [m[i]] := by rw [List.take_add_one, List.getElem?_eq_getElem (by omega : i < m.length)]; rfl
  have he' : l[i] = m[i] := by simpa using he
  rw [e1, e2, h, he']
theorem eq_of_take {α : Type} {l m : List α} {i : Nat} (hi : l.length ≤ i) (hm : l.length = m.length) (h : l.take i = m.take i) : l = m := by
  rwa [List.take_of_length_le hi, List.take_of_length_le (by omega)] at h
theorem sz_pair (a b : Ty) (x : a.D × b.D) : sz (.pair a b) x = sz a x.1 + sz b x.2 := rfl
theorem sz_str (s : List UInt8) : sz .str s = s.length := rfl
theorem sz_int (k : IntKind) (n : Int) : sz (.int k) n = 0 := rfl
theorem sz_bool (b : Bool) : sz .bool b = 0 := rfl
theorem sz_byte (b : UInt8) : sz .byte b = 0 := rfl
theorem sz_sl (e : Ty) (l : List e.D) : sz (.sl e) l = l.length + szL e l := rfl
theorem szr_neg {t : Nat} {l : Int} (h : 0 ≤ l) : (szr t l < 0) = (l < t) := by unfold szr; apply propext; split <;> omega
theorem szr_nonneg {t : Nat} {l : Int} (h : 0 ≤ l) : (0 ≤ szr t l) = ((t : Int) ≤ l) := by unfold szr; apply propext; split <;> omega
theorem szr_of_le {t : Nat} {l : Int} (h : (t : Int) ≤ l) : szr t l = l - t := by unfold szr; rw [if_pos h]
theorem szr_of_gt {t : Nat} {l : Int} (h : l < t) : szr t l = -1 := by unfold szr; rw [if_neg (by omega)]

noncomputable def eqD (T : Ty) (x y : T.D) : Bool := @decide (x = y) (Classical.propDecidable _)
theorem eqD_true {T : Ty} {x y : T.D} : (eqD T x y = true) = (x = y) := by unfold eqD; simp
theorem eqD_false {T : Ty} {x y : T.D} : (eqD T x y = false) = ¬(x = y) := by unfold eqD; simp
theorem eqD_self {T : Ty} {x : T.D} : eqD T x x = true := by unfold eqD; simp

theorem all_nth {T : Ty} {p : T.D → Bool} {l : List T.D} : (l.all p = true) ↔ ∀ j, j < l.length → p (nth T l j) = true := by
  rw [List.all_eq_true]
  constructor
  · intro h j hj
    have : nth T l j = l[j] := by unfold nth; rw [List.getD_eq_getElem?_getD, List.getElem?_eq_getElem hj]; rfl
    rw [this]; exact h _ (List.getElem_mem hj)
  · intro h x hx
    obtain ⟨j, hj, rfl⟩ := List.mem_iff_getElem.1 hx
    have : nth T l j = l[j] := by unfold nth; rw [List.getD_eq_getElem?_getD, List.getElem?_eq_getElem hj]; rfl
    rw [← this]; exact h j hj
theorem all_nth_no {T : Ty} {p : T.D → Bool} {l : List T.D} {j : Nat} (hj : j < l.length) (h : p (nth T l j) = false) : l.all p = false := by
  cases ha : l.all p with
  | false => rfl
  | true => rw [all_nth.1 ha j hj] at h; cases h

theorem sz_sl_int (k : IntKind) : ∀ (l : List Int), sz (.sl (.int k)) l = l.length
  | [] => rfl
  | x :: l => by
    have h1 : sz (.sl (.int k)) l = l.length + szL (.int k) l := rfl
    have h2 : sz (.sl (.int k)) (x :: l) = (x :: l).length + szL (.int k) (x :: l) := rfl
    have h3 : szL (.int k) (x :: l) = sz (.int k) x + szL (.int k) l := szL_cons _ _ _
    have h4 : sz (.int k) x = 0 := rfl
    have := sz_sl_int k l
    rw [h2, h3, h4, List.length_cons]; omega
theorem sz_sl_byte : ∀ (l : List UInt8), sz (.sl .byte) l = l.length
  | [] => rfl
  | x :: l => by
    have h1 : sz (.sl .byte) l = l.length + szL .byte l := rfl
    have h2 : sz (.sl .byte) (x :: l) = (x :: l).length + szL .byte (x :: l) := rfl
    have h3 : szL .byte (x :: l) = sz .byte x + szL .byte l := szL_cons _ _ _
    have h4 : sz .byte x = 0 := rfl
    have := sz_sl_byte l
    rw [h2, h3, h4, List.length_cons]; omega

/-! ### Maps -/

theorem keq_str {a b : List UInt8} : (keq .str a b = true) = (a = b) := by
  show (decide (a = b) = true) = _
  simp
theorem keq_int {k : IntKind} {a b : Int} : (keq (.int k) a b = true) = (a = b) := by
  show (decide (a = b) = true) = _
  simp
/-- A map that holds 'true' at each of these keys. -/
def setM {K : Ty} (l : List K.D) : List (K.D × Ty.bool.D) := l.map fun a => (a, true)
theorem mget_set {K : Ty} (hk : ∀ a b, (keq K a b = true) = (a = b)) {k : K.D} : ∀ {l : List K.D}, (mget (V := .bool) (setM l) k false = true) ↔ k ∈ l
  | [] => by show (false = true) ↔ _; simp
  | a :: l => by
    show ((if keq K a k = true then true else mget (V := .bool) (setM l) k false) = true) ↔ _
    rw [List.mem_cons]
    by_cases h : a = k
    · rw [if_pos (by rw [hk]; exact h)]; simp [h]
    · have h' : ¬ k = a := fun e => h e.symm
      rw [if_neg (by rw [hk]; exact h), mget_set hk]; simp [h']
theorem mget_set_no {K : Ty} (hk : ∀ a b, (keq K a b = true) = (a = b)) {k : K.D} {l : List K.D} : (mget (V := .bool) (setM l) k false = false) ↔ k ∉ l := by
  rw [← mget_set hk]; simp
theorem mput_set {K : Ty} (hk : ∀ a b, (keq K a b = true) = (a = b)) {k : K.D} : ∀ {l : List K.D}, k ∉ l → mput (V := .bool) (setM l) k true = setM (l ++ [k])
  | [], _ => rfl
  | a :: l, h => by
    rw [List.mem_cons, not_or] at h
    show (if keq K a k = true then _ else (a, true) :: mput (V := .bool) (setM l) k true) = _
    rw [if_neg (by rw [hk]; exact fun e => h.1 e.symm), mput_set hk h.2]
    rfl
theorem setM_length {K : Ty} (l : List K.D) : (setM l).length = l.length := by simp [setM]

/-! ### Lists without a twin -/

theorem nodup_snoc {α : Type} {l : List α} {x : α} : (l ++ [x]).Nodup ↔ l.Nodup ∧ x ∉ l := by
  rw [List.nodup_append]
  constructor
  · rintro ⟨h1, _, h3⟩
    exact ⟨h1, fun hm => h3 x hm x (by simp) rfl⟩
  · rintro ⟨h1, h2⟩
    refine ⟨h1, by simp, fun a ha b hb => ?_⟩
    simp only [List.mem_singleton] at hb
    subst hb
    exact fun e => h2 (e ▸ ha)
theorem not_nodup {α : Type} {l r : List α} {x : α} (h : x ∈ l) : ¬ (l ++ x :: r).Nodup := by
  rw [show l ++ x :: r = (l ++ [x]) ++ r by simp, List.nodup_append]
  rintro ⟨h1, _⟩
  exact (nodup_snoc.1 h1).2 h
theorem take_nth {T : Ty} {l : List T.D} {i : Nat} (h : i < l.length) : l.take (i + 1) = l.take i ++ [nth T l i] := by
  have : nth T l i = l[i] := by unfold nth; rw [List.getD_eq_getElem?_getD, List.getElem?_eq_getElem h]; rfl
  rw [this, List.take_add_one, List.getElem?_eq_getElem h]; rfl
theorem split_nth {T : Ty} {l : List T.D} {i : Nat} (h : i < l.length) : l = l.take i ++ nth T l i :: l.drop (i + 1) := by
  have : nth T l i = l[i] := by unfold nth; rw [List.getD_eq_getElem?_getD, List.getElem?_eq_getElem h]; rfl
  rw [this, ← List.drop_eq_getElem_cons h, List.take_append_drop]

theorem bnd_szr {T : Ty} {x : T.D} {left : Int} (hl : 0 ≤ left ∧ left ≤ 1048576) (h : 0 ≤ szr (sz T x) left) : Bnd T x ∧ 0 ≤ szr (sz T x) left ∧ szr (sz T x) left ≤ 1048576 := by
  have h' := h
  rw [szr_nonneg hl.1] at h'
  have e := szr_of_le h'
  exact ⟨bnd_of_sz T x (by omega), by omega, by omega⟩
theorem bnd_pair (a b : Ty) (x : a.D × b.D) : Bnd (.pair a b) x = (Bnd a x.1 ∧ Bnd b x.2) := rfl
end Go.Proofs.Ythojapklndjidaa
