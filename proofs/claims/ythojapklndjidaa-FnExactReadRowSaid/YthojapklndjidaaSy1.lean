/- The symbolic values of the walks: typed data, the values of a frame, and how they lie in memory. -/
import Derived.WalkKit
import Derived.Maps.AppendAt
import Derived.Below
import Derived.KernelRfl
namespace Go.Proofs.Ythojapklndjidaa
open Go Go.RowKit
set_option linter.all false
set_option linter.unusedVariables false

inductive Ty where
  | int (k : IntKind) | byte | bool | str | unit | pair (a b : Ty) | sl (e : Ty)
  deriving DecidableEq

@[reducible] def Ty.D : Ty → Type
  | .int _ => Int
  | .byte => UInt8
  | .bool => Bool
  | .str => List UInt8
  | .unit => Unit
  | .pair a b => a.D × b.D
  | .sl e => List e.D

@[simp] def Ty.size : Ty → Nat
  | .unit => 0
  | .pair a b => a.size + b.size
  | _ => 1

@[simp] def Ty.dflt : (T : Ty) → T.D
  | .int _ => (0 : Int)
  | .byte => (0 : UInt8)
  | .bool => false
  | .str => []
  | .unit => ()
  | .pair a b => (a.dflt, b.dflt)
  | .sl _ => []

/-- The bounds of an integer kind. -/
def inR : IntKind → Int → Prop
  | .i8, n => -128 ≤ n ∧ n ≤ 127
  | .i16, n => -32768 ≤ n ∧ n ≤ 32767
  | .i32, n => -2147483648 ≤ n ∧ n ≤ 2147483647
  | .i64, n => -9223372036854775808 ≤ n ∧ n ≤ 9223372036854775807
  | .u8, n => 0 ≤ n ∧ n ≤ 255
  | .u16, n => 0 ≤ n ∧ n ≤ 65535
  | .u32, n => 0 ≤ n ∧ n ≤ 4294967295
  | .u64, n => 0 ≤ n ∧ n ≤ 18446744073709551615

instance (k : IntKind) (n : Int) : Decidable (inR k n) := by cases k <;> unfold inR <;> infer_instance

theorem inR_wrap (k : IntKind) (n : Int) : inR k (k.wrap n) := by
  cases k <;> simp [inR, IntKind.wrap, IntKind.bits, IntKind.signed] <;> (try split) <;> omega

/-- What the words of a value are. -/
inductive AV where
  | any
  | bool (b : Bool)
  | int (k : IntKind) (n : Int)
  | str (s : List UInt8)
  | sl (T : Ty) (xs : List T.D)
  | nilsl
  | osl (β n : Nat)
  | ptr (γ off : Nat)
  | eptr (T : Ty) (xs : List T.D) (i off : Nat)
  | optr (β sz i off : Nat)
  | nilp | nilfn | nili
  | agg (cs : List AV)
  | tup (vs : List AV)
  | fn (f : FuncId) (caps : List AV)
  | opt (c : Bool) (v : AV)
  | omap (γ : Nat)
  | ub (p q : Prop)
deriving Inhabited

def maxB : Nat := 9223372036854775807

/-- The cells of a datum. -/
def RepT (Φ : Nat → Option Obj) : (T : Ty) → T.D → List Value → Prop
  | .int k, n, vs => vs = [.int k n] ∧ inR k n
  | .byte, b, vs => vs = [.int .u8 b.toNat]
  | .bool, b, vs => vs = [.bool b]
  | .str, s, vs => vs = [.string ⟨s.toArray⟩] ∧ s.length ≤ maxB
  | .unit, _, vs => vs = []
  | .pair a b, x, vs => ∃ v1 v2, vs = v1 ++ v2 ∧ RepT Φ a x.1 v1 ∧ RepT Φ b x.2 v2
  | .sl e, xs, vs => ∃ A cap, vs = [.slice A xs.length cap] ∧ xs.length ≤ cap ∧ cap ≤ maxB ∧
      (xs.length = 0 ∨ ∃ b o cs t fz, A = some ⟨b, o, none⟩ ∧ Φ b = some (.cells cs t fz) ∧
        ∀ i (h : i < xs.length), ∃ ws, RepT Φ e (xs[i]'h) ws ∧ ∀ (j : Nat) (w : Value), ws[j]? = some w → cs[o + (i * e.size + j)]? = some w)

theorem RepT.length {Φ : Nat → Option Obj} : ∀ {T : Ty} {x : T.D} {vs : List Value}, RepT Φ T x vs → vs.length = T.size
  | .int _, _, _, h => by simp [RepT] at h; simp [h.1]
  | .byte, _, _, h => by simp [RepT] at h; simp [h]
  | .bool, _, _, h => by simp [RepT] at h; simp [h]
  | .str, _, _, h => by simp [RepT] at h; simp [h.1]
  | .unit, _, _, h => by simp [RepT] at h; simp [h]
  | .pair a b, x, _, h => by
    obtain ⟨v1, v2, rfl, h1, h2⟩ := h
    simp [h1.length, h2.length]
  | .sl _, _, _, h => by obtain ⟨A, cap, rfl, _⟩ := h; rfl

/-- More frozen memory: a datum stays. -/
def More (Φ Φ' : Nat → Option Obj) : Prop := ∀ b o, Φ b = some o → Φ' b = some o
theorem More.refl (Φ : Nat → Option Obj) : More Φ Φ := fun _ _ h => h
theorem More.trans {a b c : Nat → Option Obj} (h : More a b) (k : More b c) : More a c := fun x o hx => k x o (h x o hx)

theorem RepT.more {Φ Φ' : Nat → Option Obj} (hm : More Φ Φ') : ∀ {T : Ty} {x : T.D} {vs : List Value}, RepT Φ T x vs → RepT Φ' T x vs
  | .int _, _, _, h => h
  | .byte, _, _, h => h
  | .bool, _, _, h => h
  | .str, _, _, h => h
  | .unit, _, _, h => h
  | .pair a b, x, _, h => by
    obtain ⟨v1, v2, rfl, h1, h2⟩ := h
    exact ⟨v1, v2, rfl, h1.more hm, h2.more hm⟩
  | .sl e, xs, _, h => by
    obtain ⟨A, cap, rfl, hc, hm', h⟩ := h
    refine ⟨A, cap, rfl, hc, hm', ?_⟩
    rcases h with h | ⟨b, o, cs, t, fz, hA, hb, h⟩
    · exact .inl h
    · refine .inr ⟨b, o, cs, t, fz, hA, hm _ _ hb, fun i hi => ?_⟩
      obtain ⟨ws, h1, h2⟩ := h i hi
      exact ⟨ws, h1.more hm, h2⟩

/-- The facts that hold of every datum that lies in memory. -/
def Wf : (T : Ty) → T.D → Prop
  | .int k, n => inR k n
  | .str, s => s.length ≤ maxB
  | .pair a b, x => Wf a x.1 ∧ Wf b x.2
  | .sl e, xs => xs.length ≤ maxB ∧ ∀ x ∈ xs, Wf e x
  | _, _ => True

theorem RepT.wf {Φ : Nat → Option Obj} : ∀ {T : Ty} {x : T.D} {vs : List Value}, RepT Φ T x vs → Wf T x
  | .int _, _, _, h => h.2
  | .byte, _, _, _ => trivial
  | .bool, _, _, _ => trivial
  | .str, _, _, h => h.2
  | .unit, _, _, _ => trivial
  | .pair a b, x, _, h => by
    obtain ⟨v1, v2, rfl, h1, h2⟩ := h
    exact ⟨h1.wf, h2.wf⟩
  | .sl e, xs, _, h => by
    obtain ⟨A, cap, rfl, hc, hm', h⟩ := h
    refine ⟨Nat.le_trans hc hm', fun x hx => ?_⟩
    obtain ⟨i, hi, rfl⟩ := List.mem_iff_getElem.1 hx
    rcases h with h | ⟨b, o, cs, t, fz, hA, hb, h⟩
    · omega
    · obtain ⟨ws, h1, _⟩ := h i hi
      exact h1.wf

/-- The words of a datum. -/
@[simp] def flat : (T : Ty) → T.D → List AV
  | .int k, n => [.int k n]
  | .byte, b => [.int .u8 (b.toNat : Int)]
  | .bool, b => [.bool b]
  | .str, s => [.str s]
  | .unit, _ => []
  | .pair a b, x => flat a x.1 ++ flat b x.2
  | .sl e, xs => [.sl e xs]

theorem flat_length : ∀ (T : Ty) (x : T.D), (flat T x).length = T.size
  | .int _, _ | .byte, _ | .bool, _ | .str, _ | .unit, _ | .sl _, _ => rfl
  | .pair a b, x => by simp [flat_length a, flat_length b]

abbrev Locs := List (Option (Nat × Nat))

inductive CVal (Φ : Nat → Option Obj) (L : Locs) : AV → Value → Prop
  | any (v : Value) : CVal Φ L .any v
  | bool (b : Bool) : CVal Φ L (.bool b) (.bool b)
  | int (k : IntKind) (n : Int) : inR k n → CVal Φ L (.int k n) (.int k n)
  | str (s : List UInt8) : s.length ≤ maxB → CVal Φ L (.str s) (.string ⟨s.toArray⟩)
  | sl (T : Ty) (xs : List T.D) (v : Value) : RepT Φ (.sl T) xs [v] → CVal Φ L (.sl T xs) v
  | nilsl : CVal Φ L .nilsl (.slice none 0 0)
  | osl (β n g cap : Nat) : L[β]? = some (some (g, cap)) → n ≤ cap → cap ≤ maxB → CVal Φ L (.osl β n) (.slice (some ⟨g, 0, none⟩) n cap)
  | oslnil (β n : Nat) : L[β]? = some none → n = 0 → CVal Φ L (.osl β n) (.slice none 0 0)
  | ptr (γ off g cap : Nat) : L[γ]? = some (some (g, cap)) → CVal Φ L (.ptr γ off) (.pointer (some ⟨g, off, none⟩))
  | eptr (T : Ty) (xs : List T.D) (i off b o cap : Nat) : RepT Φ (.sl T) xs [.slice (some ⟨b, o, none⟩) xs.length cap] → i < xs.length →
      CVal Φ L (.eptr T xs i off) (.pointer (some ⟨b, o + (i * T.size + off), none⟩))
  | optr (β sz i off g cap : Nat) : L[β]? = some (some (g, cap)) → CVal Φ L (.optr β sz i off) (.pointer (some ⟨g, i * sz + off, none⟩))
  | nilp : CVal Φ L .nilp (.pointer none)
  | nilfn : CVal Φ L .nilfn .nilFunc
  | nili : CVal Φ L .nili .nilIface
  | agg (cs : List AV) (vs : Array Value) : vs.size = cs.length → (∀ (i : Nat) v, vs[i]? = some v → v.oneCell' = true) → (∀ (i : Nat) c v, cs[i]? = some c → vs[i]? = some v → CVal Φ L c v) → CVal Φ L (.agg cs) (.agg vs)
  | tup (cs : List AV) (vs : Array Value) : vs.size = cs.length → (∀ (i : Nat) c v, cs[i]? = some c → vs[i]? = some v → CVal Φ L c v) → CVal Φ L (.tup cs) (.tuple vs)
  | fn (f : FuncId) (cs : List AV) (vs : Array Value) : vs.size = cs.length → (∀ (i : Nat) c v, cs[i]? = some c → vs[i]? = some v → CVal Φ L c v) → CVal Φ L (.fn f cs) (.func (.func f) #[] vs)
  | omap (γ g cap : Nat) : L[γ]? = some (some (g, cap)) → CVal Φ L (.omap γ) (.map (some g))
  | ub (p q : Prop) (b : Bool) : (b = true → p) → (b = false → q) → CVal Φ L (.ub p q) (.bool b)
  | opt (c : Bool) (av : AV) (v : Value) : (c = true → CVal Φ L av v) → (c = false → v = undef) → CVal Φ L (.opt c av) v

/-- A list of words and a list of values. -/
def CVals (Φ : Nat → Option Obj) (L : Locs) (cs : List AV) (vs : List Value) : Prop :=
  vs.length = cs.length ∧ ∀ (i : Nat) c v, cs[i]? = some c → vs[i]? = some v → v.oneCell' = true ∧ CVal Φ L c v

theorem CVals.nil {Φ : Nat → Option Obj} {L : Locs} : CVals Φ L [] [] := ⟨rfl, fun i c v h => by simp at h⟩
theorem CVals.cons {Φ : Nat → Option Obj} {L : Locs} {c : AV} {v : Value} {cs : List AV} {vs : List Value} (h1 : v.oneCell' = true) (h : CVal Φ L c v) (hs : CVals Φ L cs vs) : CVals Φ L (c :: cs) (v :: vs) := by
  refine ⟨by simp [hs.1], fun i c' v' hc hv => ?_⟩
  cases i with
  | zero => simp at hc hv; subst hc; subst hv; exact ⟨h1, h⟩
  | succ i => exact hs.2 i c' v' (by simpa using hc) (by simpa using hv)
theorem CVals.append {Φ : Nat → Option Obj} {L : Locs} {cs ds : List AV} {vs ws : List Value} (h : CVals Φ L cs vs) (k : CVals Φ L ds ws) : CVals Φ L (cs ++ ds) (vs ++ ws) := by
  refine ⟨by simp [h.1, k.1], fun i c v hc hv => ?_⟩
  by_cases hi : i < cs.length
  · rw [List.getElem?_append_left hi] at hc
    rw [List.getElem?_append_left (by rw [h.1]; exact hi)] at hv
    exact h.2 i c v hc hv
  · rw [List.getElem?_append_right (by omega)] at hc
    rw [List.getElem?_append_right (by rw [h.1]; omega), h.1] at hv
    exact k.2 _ c v hc hv
theorem CVals.inv_cons {Φ : Nat → Option Obj} {L : Locs} {c : AV} {cs : List AV} {vs : List Value} (h : CVals Φ L (c :: cs) vs) : ∃ v ws, vs = v :: ws ∧ v.oneCell' = true ∧ CVal Φ L c v ∧ CVals Φ L cs ws := by
  cases vs with
  | nil => simp [CVals] at h
  | cons v ws =>
    refine ⟨v, ws, rfl, (h.2 0 c v rfl rfl).1, (h.2 0 c v rfl rfl).2, by simpa using h.1, fun i c' v' hc hv => h.2 (i + 1) c' v' (by simpa using hc) (by simpa using hv)⟩
theorem CVals.inv_nil {Φ : Nat → Option Obj} {L : Locs} {vs : List Value} (h : CVals Φ L [] vs) : vs = [] := List.eq_nil_of_length_eq_zero (by simpa using h.1)

theorem CVals.of_rep {Φ : Nat → Option Obj} {L : Locs} : ∀ {T : Ty} {x : T.D} {vs : List Value}, RepT Φ T x vs → CVals Φ L (flat T x) vs
  | .int k, n, _, h => by obtain ⟨rfl, h⟩ := h; exact .cons rfl (.int k n h) .nil
  | .byte, b, _, h => by
    have h : _ = [_] := h
    subst h
    refine .cons rfl (.int _ _ ?_) .nil
    have := b.toNat_lt
    simp [inR]; omega
  | .bool, b, _, h => by have h : _ = [_] := h; subst h; exact .cons rfl (.bool b) .nil
  | .str, s, _, h => by obtain ⟨rfl, h⟩ := h; exact .cons rfl (.str s h) .nil
  | .unit, _, _, h => by have h : _ = [] := h; subst h; exact .nil
  | .pair a b, x, _, h => by
    obtain ⟨v1, v2, rfl, h1, h2⟩ := h
    exact (CVals.of_rep h1).append (CVals.of_rep h2)
  | .sl e, xs, _, h => by
    obtain ⟨A, cap, rfl, h'⟩ := id h
    exact .cons rfl (.sl e xs _ h) .nil

theorem CVal.mono {Φ Φ' : Nat → Option Obj} {L L' : Locs} (hm : More Φ Φ') (hL : ∀ (i : Nat) x, L[i]? = some x → L'[i]? = some x) {c : AV} {v : Value} (h : CVal Φ L c v) : CVal Φ' L' c v := by
  induction h with
  | any v => exact .any v
  | bool b => exact .bool b
  | int k n h => exact .int k n h
  | str s h => exact .str s h
  | sl T xs v h => exact .sl T xs v (h.more hm)
  | nilsl => exact .nilsl
  | osl β n g cap h h1 h2 => exact .osl β n g cap (hL _ _ h) h1 h2
  | oslnil β n h h1 => exact .oslnil β n (hL _ _ h) h1
  | ptr γ off g cap h => exact .ptr γ off g cap (hL _ _ h)
  | eptr T xs i off b o cap h h1 => exact .eptr T xs i off b o cap (h.more hm) h1
  | optr β sz i off g cap h => exact .optr β sz i off g cap (hL _ _ h)
  | nilp => exact .nilp
  | nilfn => exact .nilfn
  | nili => exact .nili
  | agg cs vs h h1 _ ih => exact .agg cs vs h h1 ih
  | tup cs vs h _ ih => exact .tup cs vs h ih
  | fn f cs vs h _ ih => exact .fn f cs vs h ih
  | opt c av v _ h2 ih => exact .opt c av v ih h2
  | omap γ g cap h => exact .omap γ g cap (hL _ _ h)
  | ub p q b h1 h2 => exact .ub p q b h1 h2

/-- What the package's variables are known to hold. -/
-- GL BEGIN
def gl : Nat → AV := fun _ => .any
def glX (Φ : Nat → Option Obj) : Prop := True
theorem glX_more {Φ Φ' : Nat → Option Obj} (hm : More Φ Φ') (h : glX Φ) : glX Φ' := trivial
-- GL END
def GlOk (Φ : Nat → Option Obj) : Prop := (∀ g, CVal Φ [] (gl g) (.pointer (some ⟨g, 0, none⟩))) ∧ glX Φ
theorem GlOk.more {Φ Φ' : Nat → Option Obj} (hm : More Φ Φ') (h : GlOk Φ) : GlOk Φ' := ⟨fun g => (h.1 g).mono hm (fun i x h => by simp at h), glX_more hm h.2⟩

/-- Words that lean on no frozen memory. -/
def flatTy : Ty → Bool
  | .sl _ => false
  | .pair a b => flatTy a && flatTy b
  | _ => true

theorem RepT.flat {Φ Φ' : Nat → Option Obj} : ∀ {T : Ty} {x : T.D} {vs : List Value}, flatTy T = true → RepT Φ T x vs → RepT Φ' T x vs
  | .int _, _, _, _, h => h
  | .byte, _, _, _, h => h
  | .bool, _, _, _, h => h
  | .str, _, _, _, h => h
  | .unit, _, _, _, h => h
  | .pair a b, x, _, hf, h => by
    simp only [flatTy, Bool.and_eq_true] at hf
    obtain ⟨v1, v2, rfl, h1, h2⟩ := h
    exact ⟨v1, v2, rfl, h1.flat hf.1, h2.flat hf.2⟩
  | .sl e, xs, _, hf, h => by cases hf

/-- Types whose slices are the datum's own: 'e' is the type of a slice's elements. -/
inductive DT where
  | leaf (T : Ty)
  | pair (a b : DT)
  | sl (e : TypeId) (d : DT)
  deriving DecidableEq

@[reducible] def DT.ty : DT → Ty
  | .leaf T => T
  | .pair a b => .pair a.ty b.ty
  | .sl _ d => .sl d.ty
end Go.Proofs.Ythojapklndjidaa
