/- What the laws write into the memory of arguments and answers, and read again. -/
import Derived.Test.YthojapklndjidaaSy19
namespace Go.Proofs.Ythojapklndjidaa
open Go Go.RowKit
set_option linter.unusedVariables false
set_option linter.all false

@[reducible, simp] def iv (x : Int) : Int := x

/-- The decimal digits of a number, the last ones ahead of 'acc'. -/
def digs : Nat → Nat → List UInt8 → List UInt8
  | 0, _, acc => acc
  | f + 1, n, acc => if n = 0 then acc else digs f (n / 10) (UInt8.ofNat (48 + n % 10) :: acc)
def mkText (k : Int) : List UInt8 := if k ≤ 0 then [109, 48] else 109 :: digs 20 k.toNat []

def mkL {α : Type} (f : α → Int → α × Int) : List α → Int → List α × Int
  | [], k => ([], k)
  | x :: xs, k => ((f x k).1 :: (mkL f xs (f x k).2).1, (mkL f xs (f x k).2).2)

/-- A datum with a number in each place, from 'k' on; the next number. -/
def mkE : (T : Ty) → T.D → Int → T.D × Int
  | .int t, _, k => (t.wrap k, k + 1)
  | .byte, _, k => (UInt8.ofNat (IntKind.u8.wrap k).toNat, k + 1)
  | .bool, _, k => (decide (k.tmod 3 = 0), k + 1)
  | .str, _, k => (mkText k, k + 1)
  | .unit, _, k => ((), k)
  | .pair a b, x, k => (((mkE a x.1 k).1, (mkE b x.2 (mkE a x.1 k).2).1), (mkE b x.2 (mkE a x.1 k).2).2)
  | .sl e, xs, k => mkL (mkE e) xs k
/-- The same for what is handed by value: slices alone. -/
def mkV : (T : Ty) → T.D → Int → T.D × Int
  | .pair a b, x, k => (((mkV a x.1 k).1, (mkV b x.2 (mkV a x.1 k).2).1), (mkV b x.2 (mkV a x.1 k).2).2)
  | .sl e, xs, k => mkL (mkE e) xs k
  | _, x, k => (x, k)

def cntE : (T : Ty) → T.D → Nat
  | .unit, _ => 0
  | .pair a b, x => cntE a x.1 + cntE b x.2
  | .sl e, xs => (xs.map (cntE e)).sum
  | _, _ => 1
def cntV : (T : Ty) → T.D → Nat
  | .pair a b, x => cntV a x.1 + cntV b x.2
  | .sl e, xs => (xs.map (cntE e)).sum
  | _, _ => 0

theorem mkL_snd {α : Type} {f : α → Int → α × Int} {c : α → Nat} (h : ∀ x k, (f x k).2 = k + c x) : ∀ (xs : List α) (k : Int), (mkL f xs k).2 = k + ((xs.map c).sum : Nat)
  | [], k => by simp [mkL]
  | x :: xs, k => by simp only [mkL, List.map_cons, List.sum_cons]; rw [mkL_snd h xs, h]; omega
theorem mkE_snd : ∀ (T : Ty) (x : T.D) (k : Int), (mkE T x k).2 = k + cntE T x
  | .int _, _, _ | .byte, _, _ | .bool, _, _ | .str, _, _ => rfl
  | .unit, _, k => by simp [mkE, cntE]
  | .pair a b, x, k => by simp only [mkE, cntE]; rw [mkE_snd b, mkE_snd a]; omega
  | .sl e, xs, k => mkL_snd (mkE_snd e) xs k
theorem mkV_snd : ∀ (T : Ty) (x : T.D) (k : Int), (mkV T x k).2 = k + cntV T x
  | .int _, _, k | .byte, _, k | .bool, _, k | .str, _, k | .unit, _, k => by simp [mkV, cntV]
  | .pair a b, x, k => by simp only [mkV, cntV]; rw [mkV_snd b, mkV_snd a]; omega
  | .sl e, xs, k => mkL_snd (mkE_snd e) xs k

theorem mkL_length {α : Type} {f : α → Int → α × Int} : ∀ (xs : List α) (k : Int), (mkL f xs k).1.length = xs.length
  | [], k => rfl
  | x :: xs, k => by simp [mkL, mkL_length xs]
theorem mkL_snoc {α : Type} {f : α → Int → α × Int} (x : α) : ∀ (xs : List α) (k : Int), mkL f (xs ++ [x]) k = ((mkL f xs k).1 ++ [(f x (mkL f xs k).2).1], (f x (mkL f xs k).2).2)
  | [], k => rfl
  | y :: xs, k => by simp only [List.cons_append, mkL, mkL_snoc x xs]
theorem mkL_again {α : Type} {f : α → Int → α × Int} (h1 : ∀ x k, f (f x k).1 k = f x k) : ∀ (xs : List α) (k : Int), mkL f (mkL f xs k).1 k = mkL f xs k
  | [], k => rfl
  | x :: xs, k => by simp only [mkL]; rw [h1, mkL_again h1 xs]
theorem mkE_again : ∀ (T : Ty) (x : T.D) (k : Int), mkE T (mkE T x k).1 k = mkE T x k
  | .int _, _, _ | .byte, _, _ | .bool, _, _ | .str, _, _ | .unit, _, _ => rfl
  | .pair a b, x, k => by simp only [mkE]; rw [mkE_again a, mkE_again b]
  | .sl e, xs, k => mkL_again (mkE_again e) xs k
theorem mkV_again : ∀ (T : Ty) (x : T.D) (k : Int), mkV T (mkV T x k).1 k = mkV T x k
  | .int _, _, _ | .byte, _, _ | .bool, _, _ | .str, _, _ | .unit, _, _ => rfl
  | .pair a b, x, k => by simp only [mkV]; rw [mkV_again a, mkV_again b]
  | .sl e, xs, k => mkL_again (mkE_again e) xs k
theorem cntE_mk (T : Ty) (x : T.D) (k : Int) : cntE T (mkE T x k).1 = cntE T x := by
  have h1 := mkE_snd T x k
  have h2 := mkE_snd T (mkE T x k).1 k
  rw [mkE_again] at h2; omega
theorem cntV_mk (T : Ty) (x : T.D) (k : Int) : cntV T (mkV T x k).1 = cntV T x := by
  have h1 := mkV_snd T x k
  have h2 := mkV_snd T (mkV T x k).1 k
  rw [mkV_again] at h2; omega

/-- One round of a loop that writes. -/
theorem mkL_step {T : Ty} {f : T.D → Int → T.D × Int} {l : List T.D} {i : Nat} {k : Int} (h : i < l.length) :
    ((mkL f (l.take i) k).1 ++ l.drop i).length = l.length ∧ nth T ((mkL f (l.take i) k).1 ++ l.drop i) i = nth T l i ∧
    ((mkL f (l.take i) k).1 ++ l.drop i).set i (f (nth T l i) (mkL f (l.take i) k).2).1 = (mkL f (l.take (i + 1)) k).1 ++ l.drop (i + 1) ∧
    (f (nth T l i) (mkL f (l.take i) k).2).2 = (mkL f (l.take (i + 1)) k).2 := by
  have hl : (mkL f (l.take i) k).1.length = i := by rw [mkL_length, List.length_take]; omega
  have e : l.take (i + 1) = l.take i ++ [nth T l i] := take_nth h
  have hn : nth T l i = l[i] := by unfold nth; rw [List.getD_eq_getElem?_getD, List.getElem?_eq_getElem h]; rfl
  refine ⟨by rw [List.length_append, hl, List.length_drop]; omega, ?_, ?_, by rw [e, mkL_snoc]⟩
  · unfold nth
    rw [List.getD_eq_getElem?_getD, List.getD_eq_getElem?_getD, List.getElem?_append_right (by omega), hl, List.getElem?_drop]
    simp
  · rw [e, mkL_snoc, List.set_append_right _ _ (by omega), hl, Nat.sub_self, List.drop_eq_getElem_cons h, List.set_cons_zero, List.append_assoc]
    rfl

theorem mkL_bnd {T : Ty} {f : T.D → Int → T.D × Int} {c : T.D → Nat} (hf : ∀ x k, (f x k).2 = k + c x) {l : List T.D} {i : Nat} {k : Int} (h : i < l.length) :
    k ≤ (mkL f (l.take i) k).2 ∧ (mkL f (l.take i) k).2 + c (nth T l i) ≤ k + ((l.map c).sum : Nat) := by
  rw [mkL_snd hf]
  have e : (l.map c).sum = ((l.take i).map c).sum + (c (nth T l i) + ((l.drop (i + 1)).map c).sum) := by
    conv => lhs; rw [split_nth (T := T) h]
    simp
  omega

/-- What a round of a loop that reads tells. -/
theorem mkL_eq_take {α : Type} {f : α → Int → α × Int} {l : List α} {k : Int} (h : (mkL f l k).1 = l) (i : Nat) : (mkL f (l.take i) k).1 = l.take i := by
  induction l generalizing k i with
  | nil => simp [mkL]
  | cons x xs ih =>
    simp only [mkL, List.cons.injEq] at h
    cases i with
    | zero => rfl
    | succ i => simp only [List.take_succ_cons, mkL, h.1, ih h.2 i]
theorem mkL_eq_step {T : Ty} {f : T.D → Int → T.D × Int} {l : List T.D} {i : Nat} {k : Int} (h : i < l.length) (he : (mkL f (l.take i) k).1 = l.take i) :
    ((f (nth T l i) (mkL f (l.take i) k).2).1 = nth T l i → (mkL f (l.take (i + 1)) k).1 = l.take (i + 1)) ∧ ((mkL f l k).1 = l → (f (nth T l i) (mkL f (l.take i) k).2).1 = nth T l i) := by
  have e : l.take (i + 1) = l.take i ++ [nth T l i] := take_nth h
  refine ⟨fun hx => by rw [e, mkL_snoc, hx, he], fun hl => ?_⟩
  have := mkL_eq_take hl (i + 1)
  rw [e, mkL_snoc] at this
  simpa [he] using this

theorem sz_sl_fix {e : Ty} (h : ∀ x : e.D, sz e x = 0) (l : List e.D) : sz (.sl e) l = l.length := by
  rw [sz_sl]
  have : szL e l = 0 := by
    induction l with
    | nil => rfl
    | cons x xs ih => rw [szL_cons, h, ih]
  omega

/-- The most numbers a datum takes for each of its parts. -/
def wid : Ty → Nat
  | .unit => 0
  | .pair a b => wid a + wid b
  | .sl e => wid e
  | _ => 1
theorem cntE_le : ∀ (T : Ty) (x : T.D), cntE T x ≤ wid T * (1 + sz T x)
  | .int _, _ | .byte, _ | .bool, _ => by simp [cntE, wid]
  | .str, _ => by simp [cntE, wid]
  | .unit, _ => by simp [cntE]
  | .pair a b, x => by
    have h1 := cntE_le a x.1
    have h2 := cntE_le b x.2
    simp only [cntE, wid, sz_pair]
    have e1 : wid a * (1 + sz a x.1) ≤ wid a * (1 + (sz a x.1 + sz b x.2)) := Nat.mul_le_mul_left _ (by omega)
    have e2 : wid b * (1 + sz b x.2) ≤ wid b * (1 + (sz a x.1 + sz b x.2)) := Nat.mul_le_mul_left _ (by omega)
    rw [Nat.add_mul]; omega
  | .sl e, xs => by
    have key : ∀ (xs : List e.D), (xs.map (cntE e)).sum ≤ wid e * (xs.length + szL e xs) := by
      intro xs
      induction xs with
      | nil => simp
      | cons x xs ih =>
        have h1 := cntE_le e x
        simp only [List.map_cons, List.sum_cons, List.length_cons, szL_cons]
        have e3 : wid e * (xs.length + 1 + (sz e x + szL e xs)) = wid e * (1 + sz e x) + wid e * (xs.length + szL e xs) := by rw [← Nat.mul_add]; congr 1; omega
        omega
    have := key xs
    simp only [cntE, wid, sz_sl]
    have e4 : wid e * (xs.length + szL e xs) ≤ wid e * (1 + (xs.length + szL e xs)) := Nat.mul_le_mul_left _ (by omega)
    omega
theorem cntV_le : ∀ (T : Ty) (x : T.D), cntV T x ≤ cntE T x
  | .int _, _ | .byte, _ | .bool, _ | .str, _ | .unit, _ => by simp [cntV]
  | .pair a b, x => by
    have h1 := cntV_le a x.1
    have h2 := cntV_le b x.2
    simp only [cntV, cntE]; omega
  | .sl e, xs => Nat.le_refl _
theorem cntE_bnd {T : Ty} {x : T.D} {m : Nat} (h : sz T x ≤ 1048576) (hw : wid T ≤ m) : cntE T x ≤ m * 1048577 := by
  have := cntE_le T x
  have e1 : wid T * (1 + sz T x) ≤ m * 1048577 := Nat.mul_le_mul hw (by omega)
  omega

theorem cntE_pair (a b : Ty) (x : a.D × b.D) : cntE (.pair a b) x = cntE a x.1 + cntE b x.2 := rfl
theorem cntE_int (t : IntKind) (x : Int) : cntE (.int t) x = 1 := rfl
theorem cntE_str (x : List UInt8) : cntE .str x = 1 := rfl
theorem cntE_bool (x : Bool) : cntE .bool x = 1 := rfl
theorem cntE_byte (x : UInt8) : cntE .byte x = 1 := rfl
theorem cntE_sl (e : Ty) (x : List e.D) : cntE (.sl e) x = (x.map (cntE e)).sum := rfl
theorem cntV_pair (a b : Ty) (x : a.D × b.D) : cntV (.pair a b) x = cntV a x.1 + cntV b x.2 := rfl
theorem cntV_int (t : IntKind) (x : Int) : cntV (.int t) x = 0 := rfl
theorem cntV_str (x : List UInt8) : cntV .str x = 0 := rfl
theorem cntV_bool (x : Bool) : cntV .bool x = 0 := rfl
theorem cntV_byte (x : UInt8) : cntV .byte x = 0 := rfl
theorem cntV_sl (e : Ty) (x : List e.D) : cntV (.sl e) x = (x.map (cntE e)).sum := rfl
theorem mkE_pair (a b : Ty) (x : a.D × b.D) (k : Int) : mkE (.pair a b) x k = (((mkE a x.1 k).1, (mkE b x.2 (mkE a x.1 k).2).1), (mkE b x.2 (mkE a x.1 k).2).2) := rfl
theorem mkE_int (t : IntKind) (x k : Int) : mkE (.int t) x k = (t.wrap k, k + 1) := rfl
theorem mkE_str (x : List UInt8) (k : Int) : mkE .str x k = (mkText k, k + 1) := rfl
theorem mkE_bool (x : Bool) (k : Int) : mkE .bool x k = (decide (k.tmod 3 = 0), k + 1) := rfl
theorem mkE_byte (x : UInt8) (k : Int) : mkE .byte x k = (UInt8.ofNat (IntKind.u8.wrap k).toNat, k + 1) := rfl
theorem mkE_sl (e : Ty) (x : List e.D) (k : Int) : mkE (.sl e) x k = mkL (mkE e) x k := rfl
theorem mkV_pair (a b : Ty) (x : a.D × b.D) (k : Int) : mkV (.pair a b) x k = (((mkV a x.1 k).1, (mkV b x.2 (mkV a x.1 k).2).1), (mkV b x.2 (mkV a x.1 k).2).2) := rfl
theorem mkV_int (t : IntKind) (x k : Int) : mkV (.int t) x k = (x, k) := rfl
theorem mkV_str (x : List UInt8) (k : Int) : mkV .str x k = (x, k) := rfl
theorem mkV_bool (x : Bool) (k : Int) : mkV .bool x k = (x, k) := rfl
theorem mkV_byte (x : UInt8) (k : Int) : mkV .byte x k = (x, k) := rfl
theorem mkV_sl (e : Ty) (x : List e.D) (k : Int) : mkV (.sl e) x k = mkL (mkE e) x k := rfl
theorem cntV_sl' (e : Ty) (x : List e.D) : cntV (.sl e) x = cntE (.sl e) x := rfl
theorem byte_w (x : UInt8) (K : Int) : UInt8.ofNat (IntKind.u8.wrap K).toNat = x ↔ (x.toNat : Int) = IntKind.u8.wrap K := by
  have e : IntKind.u8.wrap K = K % 256 := by simp [IntKind.wrap, IntKind.bits, IntKind.signed]
  rw [e]
  constructor
  · intro h; subst h
    rw [UInt8.toNat_ofNat']; omega
  · intro h; apply UInt8.toNat_inj.1
    rw [UInt8.toNat_ofNat']; omega
theorem tmod3_in (x : Int) : -9223372036854775808 ≤ x.tmod 3 ∧ x.tmod 3 ≤ 9223372036854775807 := by
  have h1 := Int.tmod_lt_of_pos x (by decide : (0 : Int) < 3)
  have h2 : -3 < x.tmod 3 := by
    have := Int.lt_tmod_of_pos x (by decide : (0 : Int) < 3)
    omega
  omega

/-- What a loop that reads the numbers again answers: the next number, or -1. -/
noncomputable def hdR (T : Ty) (l : List T.D) (k : Int) : Int := @ite _ ((mkL (mkE T) l k).1 = l) (Classical.propDecidable _) (mkL (mkE T) l k).2 (-1)
theorem hdR_no {T : Ty} {l : List T.D} {k : Int} (h : ¬ (mkL (mkE T) l k).1 = l) : hdR T l k = -1 := by unfold hdR; rw [if_neg h]
theorem hdR_yes {T : Ty} {l : List T.D} {k : Int} (h : (mkL (mkE T) l k).1 = l) : hdR T l k = (mkL (mkE T) l k).2 := by unfold hdR; rw [if_pos h]
theorem hdR_neg {T : Ty} {l : List T.D} {k : Int} (hk : 0 ≤ k) : hdR T l k < 0 ↔ ¬ (mkL (mkE T) l k).1 = l := by
  by_cases h : (mkL (mkE T) l k).1 = l
  · rw [hdR_yes h, mkL_snd (mkE_snd T)]; simp only [h, not_true_eq_false, iff_false]; omega
  · rw [hdR_no h]; simp [h]

theorem take_mk {T : Ty} (G : List T.D) (k : Int) : List.take G.length (mkL (mkE T) G k).1 = (mkL (mkE T) G k).1 := List.take_of_length_le (by rw [mkL_length]; exact Nat.le_refl _)
theorem hd_again {T : Ty} (G : List T.D) (k : Int) : hdR T (mkL (mkE T) G k).1 k = (mkL (mkE T) G k).2 := by
  have e := mkL_again (f := mkE T) (mkE_again T) G k
  rw [hdR_yes (by rw [e]), e]
theorem cnt_again {T : Ty} (G : List T.D) (k : Int) : cntE (.sl T) (mkL (mkE T) G k).1 = cntE (.sl T) G := cntE_mk (.sl T) G k
theorem mkL_snd' {T : Ty} (G : List T.D) (k : Int) : (mkL (mkE T) G k).2 = k + (cntE (.sl T) G : Nat) := mkL_snd (mkE_snd T) G k
theorem sz_szr {T : Ty} {x : T.D} {left : Int} (hl : 0 ≤ left ∧ left ≤ 1048576) (h : 0 ≤ szr (sz T x) left) : sz T x ≤ 1048576 := by
  rw [szr_nonneg hl.1] at h; omega
theorem cnt_szr {T : Ty} {x : T.D} {left : Int} (hl : 0 ≤ left ∧ left ≤ 1048576) (h : 0 ≤ szr (sz T x) left) : cntE T x ≤ wid T * 1048577 := cntE_bnd (sz_szr hl h) (Nat.le_refl _)

theorem nth_set_self {T : Ty} {xs : List T.D} {i : Nat} {y : T.D} (h : i < xs.length) : nth T (xs.set i y) i = y := by
  unfold nth; rw [List.getD_eq_getElem?_getD, List.getElem?_set_self h]; rfl
end Go.Proofs.Ythojapklndjidaa
