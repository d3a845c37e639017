/- Maps: what is read of them. -/
import Derived.Test.YthojapklndjidaaSy7
import Derived.MapKept
namespace Go.Proofs.Ythojapklndjidaa
open Go Go.RowKit
set_option linter.unusedVariables false
set_option linter.all false

section
variable {P : Program} {C : Ctx} {Φ : Nat → Option Obj} {L : Locs} {H : List AObj} {w : World}
/-! ### Typed data out of words -/

def unflat : (T : Ty) → List AV → Option (T.D × List AV)
  | .int k, c :: r => match c with
    | .int k' n => if k' = k then some (n, r) else none
    | _ => none
  | .byte, c :: r => match c with
    | .int .u8 n => some (UInt8.ofNat n.toNat, r)
    | _ => none
  | .bool, c :: r => match c with
    | .bool b => some (b, r)
    | _ => none
  | .str, c :: r => match c with
    | .str s => some (s, r)
    | _ => none
  | .unit, r => some ((), r)
  | .pair a b, cs => match unflat a cs with
    | some (x, r) => match unflat b r with
      | some (y, r') => some ((x, y), r')
      | none => none
    | none => none
  | .sl e, c :: r => match c with
    | .sl e' xs => if h : e' = e then some (cast (congrArg (fun e => List (Ty.D e)) h) xs, r) else none
    | .nilsl => some ([], r)
    | _ => none
  | _, [] => none

theorem unflat_ok : ∀ {T : Ty} {cs r : List AV} {x : T.D} {vs : List Value}, unflat T cs = some (x, r) → CVals Φ L cs vs → ∃ v1 v2, vs = v1 ++ v2 ∧ RepT Φ T x v1 ∧ CVals Φ L r v2
  | .int k, [], r, x, vs, h, hc => by simp [unflat] at h
  | .int k, c :: cs, r, x, vs, h, hc => by
    simp only [unflat] at h
    split at h
    · split at h
      · rename_i k' n hk
        subst hk
        simp only [Option.some.injEq, Prod.mk.injEq] at h
        obtain ⟨rfl, rfl⟩ := h
        obtain ⟨v, ws, rfl, _, hv, hs⟩ := hc.inv_cons
        cases hv with
        | int _ _ hr => exact ⟨[_], ws, rfl, ⟨rfl, hr⟩, hs⟩
      · cases h
    · cases h
  | .byte, [], r, x, vs, h, hc => by simp [unflat] at h
  | .byte, c :: cs, r, x, vs, h, hc => by
    simp only [unflat] at h
    split at h
    · rename_i n
      simp only [Option.some.injEq, Prod.mk.injEq] at h
      obtain ⟨rfl, rfl⟩ := h
      obtain ⟨v, ws, rfl, _, hv, hs⟩ := hc.inv_cons
      cases hv with
      | int _ _ hr =>
        refine ⟨[_], ws, rfl, ?_, hs⟩
        simp only [inR] at hr
        have : ((UInt8.ofNat n.toNat).toNat : Int) = n := by
          rw [UInt8.toNat_ofNat']; omega
        simp only [RepT, this]
    · cases h
  | .bool, [], r, x, vs, h, hc => by simp [unflat] at h
  | .bool, c :: cs, r, x, vs, h, hc => by
    simp only [unflat] at h
    split at h
    · simp only [Option.some.injEq, Prod.mk.injEq] at h
      obtain ⟨rfl, rfl⟩ := h
      obtain ⟨v, ws, rfl, _, hv, hs⟩ := hc.inv_cons
      cases hv
      exact ⟨[_], ws, rfl, rfl, hs⟩
    · cases h
  | .str, [], r, x, vs, h, hc => by simp [unflat] at h
  | .str, c :: cs, r, x, vs, h, hc => by
    simp only [unflat] at h
    split at h
    · simp only [Option.some.injEq, Prod.mk.injEq] at h
      obtain ⟨rfl, rfl⟩ := h
      obtain ⟨v, ws, rfl, _, hv, hs⟩ := hc.inv_cons
      cases hv with
      | str _ hr => exact ⟨[_], ws, rfl, ⟨rfl, hr⟩, hs⟩
    · cases h
  | .unit, cs, r, x, vs, h, hc => by
    simp only [unflat, Option.some.injEq, Prod.mk.injEq] at h
    obtain ⟨_, rfl⟩ := h
    exact ⟨[], vs, rfl, rfl, hc⟩
  | .pair a b, cs, r, x, vs, h, hc => by
    simp only [unflat] at h
    split at h
    · rename_i x1 r1 h1
      split at h
      · rename_i y r2 h2
        simp only [Option.some.injEq, Prod.mk.injEq] at h
        obtain ⟨rfl, rfl⟩ := h
        obtain ⟨v1, v2, rfl, e1, e2⟩ := unflat_ok h1 hc
        obtain ⟨v3, v4, rfl, e3, e4⟩ := unflat_ok h2 e2
        exact ⟨v1 ++ v3, v4, by simp, ⟨v1, v3, rfl, e1, e3⟩, e4⟩
      · cases h
    · cases h
  | .sl e, [], r, x, vs, h, hc => by simp [unflat] at h
  | .sl e, c :: cs, r, x, vs, h, hc => by
    simp only [unflat] at h
    split at h
    · split at h
      · rename_i e' xs he
        subst he
        simp only [Option.some.injEq, Prod.mk.injEq] at h
        obtain ⟨rfl, rfl⟩ := h
        obtain ⟨v, ws, rfl, _, hv, hs⟩ := hc.inv_cons
        cases hv with
        | sl _ _ _ hr => exact ⟨[v], ws, rfl, hr, hs⟩
      · cases h
    · simp only [Option.some.injEq, Prod.mk.injEq] at h
      obtain ⟨rfl, rfl⟩ := h
      obtain ⟨v, ws, rfl, _, hv, hs⟩ := hc.inv_cons
      cases hv
      exact ⟨[_], ws, rfl, ⟨none, 0, rfl, Nat.le_refl _, Nat.zero_le _, .inl rfl⟩, hs⟩
    · cases h

/-- One datum, all of it. -/
def unflat1 (T : Ty) (cs : List AV) : Option T.D := match unflat T cs with
  | some (x, []) => some x
  | _ => none

theorem unflat1_ok {T : Ty} {cs : List AV} {x : T.D} {vs : List Value} (h : unflat1 T cs = some x) (hc : CVals Φ L cs vs) : RepT Φ T x vs := by
  unfold unflat1 at h
  split at h
  · rename_i x' hu
    simp only [Option.some.injEq] at h; subst h
    obtain ⟨v1, v2, rfl, h1, h2⟩ := unflat_ok hu hc
    have := h2.inv_nil
    subst this
    simpa using h1
  · cases h

end

def keq : (K : Ty) → K.D → K.D → Bool
  | .int _, a, b => decide ((a : Int) = b)
  | .str, a, b => decide ((a : List UInt8) = b)
  | .bool, a, b => decide ((a : Bool) = b)
  | .pair A B, a, b => keq A a.1 b.1 && keq B a.2 b.2
  | _, _, _ => false
def mget {K V : Ty} : List (K.D × V.D) → K.D → V.D → V.D
  | [], _, d => d
  | x :: r, k, d => if keq K x.1 k = true then x.2 else mget r k d
def mhas {K V : Ty} : List (K.D × V.D) → K.D → Bool
  | [], _ => false
  | x :: r, k => keq K x.1 k || mhas r k
def mput {K V : Ty} : List (K.D × V.D) → K.D → V.D → List (K.D × V.D)
  | [], k, v => [(k, v)]
  | x :: r, k, v => if keq K x.1 k = true then (k, v) :: r else x :: mput r k v

/-- The kind of a map's keys. -/
def keyK (P : Program) (k : TypeId) (d : TypeDesc) : TK := match d with
  | .struct _ => match eqInfo P k with
    | some ks => .kst ks
    | none => .other
  | _ => kindOf P d
/-- The kind of a map's keys, the zero of its elements. -/
def mapInfo (P : Program) (t : TypeId) : Option (TypeId × TypeId × TK × AV) := match P.underlying t with
  | some (.map k e) => match P.underlying k, P.info? e with
    | some d, some i => i.zero.bind fun z => if z.oneCell' = true then some (k, e, keyK P k d, aof z) else none
    | _, _ => none
  | _ => none

theorem mapInfo_ok {P : Program} {t k e : TypeId} {kd : TK} {za : AV} (h : mapInfo P t = some (k, e, kd, za)) (w : World) : ∃ d z, P.underlying t = some (.map k e) ∧ P.underlying k = some d ∧ keyK P k d = kd ∧ (zeroValue e).run P w = .ok z w ∧ z.oneCell' = true ∧ aof z = za := by
  unfold mapInfo at h
  split at h
  · rename_i k' e' ht
    split at h
    · rename_i d i hd hi
      simp only [Option.bind_eq_some_iff] at h
      obtain ⟨z, hz, h⟩ := h
      split at h
      · rename_i hone
        simp only [Option.some.injEq, Prod.mk.injEq] at h
        obtain ⟨rfl, rfl, rfl, rfl⟩ := h
        refine ⟨d, z, ht, hd, rfl, ?_, hone, rfl⟩
        simp [zeroValue, typeInfo, hi, hz]
      · cases h
    · cases h
  · cases h

/-- The words of a struct's type, one by one. -/
def kM : Ty → List TK → Option (List TK)
  | .int k, .int k' :: r => if k' = k then some r else none
  | .bool, .bool :: r => some r
  | .str, .str :: r => some r
  | .pair a b, ks => match kM a ks with
    | some r => kM b r
    | none => none
  | _, _ => none
def keyD : TK → (K : Ty) → AV → Option K.D
  | .int q, .int q', .int q'' n => if q = q' ∧ q'' = q' then some n else none
  | .str, .str, .str s => some s
  | .kst ks, .pair a b, .agg cs => match kM (.pair a b) ks with
    | some [] => unflat1 (.pair a b) cs
    | _ => none
  | _, _, _ => none

def IsKeyK (d : TypeDesc) (K : Ty) : Prop := (∃ q, d = .int q ∧ K = .int q) ∨ (d = .string ∧ K = .str)

theorem sameNow_keq {Φ : Nat → Option Obj} {d : TypeDesc} {K : Ty} (hd : IsKeyK d K) {a b : K.D} {u v : Value} (hu : RepT Φ K a [u]) (hv : RepT Φ K b [v]) : Instr.sameNow d u v = some (keq K b a) ∧ (keq K b a = true → b = a ∧ u = v) := by
  rcases hd with ⟨q, rfl, rfl⟩ | ⟨rfl, rfl⟩
  · obtain ⟨h1, _⟩ := hu
    obtain ⟨h2, _⟩ := hv
    simp only [List.cons.injEq, and_true] at h1 h2
    subst h1; subst h2
    change Int at a b
    have e : Instr.sameNow (.int q) (.int q a) (.int q b) = some (a == b) := by simp [Instr.sameNow]
    have k : keq (.int q) b a = decide (b = a) := rfl
    rw [e, k]
    constructor
    · congr 1
      by_cases h : a = b
      · subst h; simp
      · have h' : ¬ b = a := fun e => h e.symm
        simp [h, h']
    · intro h
      have h : b = a := of_decide_eq_true h
      subst h; exact ⟨rfl, rfl⟩
  · obtain ⟨h1, _⟩ := hu
    obtain ⟨h2, _⟩ := hv
    simp only [List.cons.injEq, and_true] at h1 h2
    subst h1; subst h2
    change List UInt8 at a b
    have e : Instr.sameNow .string (.string ⟨a.toArray⟩) (.string ⟨b.toArray⟩) = some ((⟨a.toArray⟩ : ByteArray) == ⟨b.toArray⟩) := rfl
    have k : keq .str b a = decide (b = a) := rfl
    rw [e, k]
    constructor
    · congr 1
      by_cases h : a = b
      · subst h
        rw [(MapKept.bytes_beq _ _).2 rfl]; simp
      · have h' : ¬ b = a := fun e => h e.symm
        simp only [h', decide_false]
        cases hx : ((⟨a.toArray⟩ : ByteArray) == ⟨b.toArray⟩) with
        | false => rfl
        | true =>
          have := (MapKept.bytes_beq _ _).1 hx
          simp at this
          exact absurd this h
    · intro h
      have h : b = a := of_decide_eq_true h
      subst h; exact ⟨rfl, rfl⟩

theorem findNow_ents {Φ : Nat → Option Obj} {d : TypeDesc} {K V : Ty} (hd : IsKeyK d K) {k : K.D} {key : Value} (hk : RepT Φ K k [key]) :
    ∀ {xs : List (K.D × V.D)} {es : List MapEntry} (i : Nat), Ents Φ K V xs es →
    (mhas xs k = false ∧ Instr.findNow d key es i = some none ∧ (∀ df, mget xs k df = df) ∧ ∀ v, mput xs k v = xs ++ [(k, v)]) ∨
    ∃ j e x, es[j]? = some e ∧ xs[j]? = some x ∧ e.key = key ∧ Instr.findNow d key es i = some (some (i + j, e.val)) ∧ RepT Φ V x.2 [e.val] ∧ mhas xs k = true ∧ (∀ df, mget xs k df = x.2) ∧ ∀ v, mput xs k v = xs.set j (k, v)
  | [], _, i, h => by
    have h : _ = [] := h
    subst h
    exact .inl ⟨rfl, rfl, fun _ => rfl, fun _ => rfl⟩
  | x :: xs, _, i, h => by
    obtain ⟨e, r, rfl, h1, h2, h3⟩ := h
    have hp : isPair K = false := by rcases hd with ⟨q, _, rfl⟩ | ⟨_, rfl⟩ <;> rfl
    have h1 : RepT Φ K x.1 [e.key] := by unfold KRep at h1; rw [hp] at h1; exact h1
    obtain ⟨hs, hq⟩ := sameNow_keq hd hk h1
    cases hx : keq K x.1 k with
    | true =>
      rw [hx] at hs
      obtain ⟨_, hq⟩ := hq hx
      exact .inr ⟨0, e, x, rfl, rfl, hq.symm, by simp [Instr.findNow, hs], h2, by simp [mhas, hx], fun df => by simp [mget, hx], fun v => by simp [mput, hx]⟩
    | false =>
      rw [hx] at hs
      rcases findNow_ents hd hk (i + 1) h3 with ⟨a1, a2, a3, a4⟩ | ⟨j, e', x', a1, a2, a3, a4, a5, a6, a7, a8⟩
      · exact .inl ⟨by simp [mhas, hx, a1], by simp [Instr.findNow, hs, a2], fun df => by simp [mget, hx, a3], fun v => by simp [mput, hx, a4]⟩
      · exact .inr ⟨j + 1, e', x', by simpa using a1, by simpa using a2, a3, by simp [Instr.findNow, hs, a4]; omega, a5, by simp [mhas, hx, a6], fun df => by simp [mget, hx, a7], fun v => by simp [mput, hx, a8]⟩

theorem keq_eq : ∀ {K : Ty} {ks r : List TK}, kM K ks = some r → ∀ {a b : K.D}, keq K a b = true → a = b
  | .int k, ks, r, h, a, b, he => of_decide_eq_true he
  | .str, ks, r, h, a, b, he => of_decide_eq_true he
  | .bool, ks, r, h, a, b, he => of_decide_eq_true he
  | .pair A B, ks, r, h, a, b, he => by
    simp only [kM] at h
    split at h
    · rename_i r1 h1
      simp only [keq, Bool.and_eq_true] at he
      exact Prod.ext (keq_eq h1 he.1) (keq_eq h he.2)
    · cases h
  | .byte, ks, r, h, a, b, he => by cases ks <;> simp [kM] at h
  | .unit, ks, r, h, a, b, he => by cases ks <;> simp [kM] at h
  | .sl e, ks, r, h, a, b, he => by cases ks <;> simp [kM] at h
theorem kM_one : ∀ {K : Ty} {ks r : List TK}, kM K ks = some r → ∀ {Φ : Nat → Option Obj} {x : K.D} {us vs : List Value}, RepT Φ K x us → RepT Φ K x vs → us = vs
  | .int k, ks, r, h, Φ, x, us, vs, h1, h2 => by rw [h1.1, h2.1]
  | .str, ks, r, h, Φ, x, us, vs, h1, h2 => by rw [h1.1, h2.1]
  | .bool, ks, r, h, Φ, x, us, vs, h1, h2 => by have h1 : us = _ := h1; have h2 : vs = _ := h2; rw [h1, h2]
  | .pair A B, ks, r, h, Φ, x, us, vs, h1, h2 => by
    simp only [kM] at h
    split at h
    · rename_i r1 e1
      obtain ⟨u1, u2, rfl, a1, a2⟩ := h1
      obtain ⟨v1, v2, rfl, b1, b2⟩ := h2
      rw [kM_one e1 a1 b1, kM_one h a2 b2]
    · cases h
  | .byte, ks, r, h, Φ, x, us, vs, h1, h2 => by cases ks <;> simp [kM] at h
  | .unit, ks, r, h, Φ, x, us, vs, h1, h2 => by cases ks <;> simp [kM] at h
  | .sl e, ks, r, h, Φ, x, us, vs, h1, h2 => by cases ks <;> simp [kM] at h
theorem eqCells_flat : ∀ {K : Ty} {ks r : List TK}, kM K ks = some r → ∀ (a b : K.D) (cs ds : List AV), eqCells ks (flat K a ++ cs) (flat K b ++ ds) = (eqCells r cs ds).map (keq K b a && ·)
  | .int k, ks, r, h, a, b, cs, ds => by
    change Int at a b
    cases ks with
    | nil => simp [kM] at h
    | cons q ks =>
      cases q <;> simp only [kM, reduceCtorEq] at h
      split at h
      · rename_i hk
        subst hk
        simp only [Option.some.injEq] at h; subst h
        simp only [flat, List.cons_append, List.nil_append, eqCells, and_self, if_true]
        have : decide (a = b) = decide (b = a) := by rw [decide_eq_decide]; exact eq_comm
        rw [this]; rfl
      · cases h
  | .str, ks, r, h, a, b, cs, ds => by
    change List UInt8 at a b
    cases ks with
    | nil => simp [kM] at h
    | cons q ks =>
      cases q <;> simp only [kM, reduceCtorEq] at h
      simp only [Option.some.injEq] at h; subst h
      simp only [flat, List.cons_append, List.nil_append, eqCells]
      have : decide (a = b) = keq .str b a := by show decide (a = b) = decide (b = a); rw [decide_eq_decide]; exact eq_comm
      rw [this]
  | .bool, ks, r, h, a, b, cs, ds => by
    change Bool at a b
    cases ks with
    | nil => simp [kM] at h
    | cons q ks =>
      cases q <;> simp only [kM, reduceCtorEq] at h
      simp only [Option.some.injEq] at h; subst h
      simp only [flat, List.cons_append, List.nil_append, eqCells]
      have : decide (a = b) = keq .bool b a := by show decide (a = b) = decide (b = a); rw [decide_eq_decide]; exact eq_comm
      rw [this]
  | .pair A B, ks, r, h, a, b, cs, ds => by
    simp only [kM] at h
    split at h
    · rename_i r1 h1
      simp only [flat, List.append_assoc]
      rw [eqCells_flat h1, eqCells_flat h]
      cases eqCells r cs ds <;> simp [keq, Bool.and_assoc]
    · cases h
  | .byte, ks, r, h, a, b, cs, ds => by cases ks <;> simp [kM] at h
  | .unit, ks, r, h, a, b, cs, ds => by cases ks <;> simp [kM] at h
  | .sl e, ks, r, h, a, b, cs, ds => by cases ks <;> simp [kM] at h

theorem findAsking_ents {P : Program} {Φ : Nat → Option Obj} {kt : TypeId} {K V : Ty} {k : K.D} {key : Value} (heq : ∀ (x : K.D) (u : Value), KRep Φ K x u → (∀ w, (Op.equal kt key u).run P w = .ok (keq K x k) w) ∧ (keq K x k = true → u = key)) :
    ∀ {xs : List (K.D × V.D)} {es : List MapEntry} (i : Nat), Ents Φ K V xs es →
    (mhas xs k = false ∧ (∀ w, (Instr.findAsking kt key es i).run P w = .ok none w) ∧ (∀ df, mget xs k df = df) ∧ ∀ v, mput xs k v = xs ++ [(k, v)]) ∨
    ∃ j e x, es[j]? = some e ∧ xs[j]? = some x ∧ e.key = key ∧ (∀ w, (Instr.findAsking kt key es i).run P w = .ok (some (i + j, e.val)) w) ∧ RepT Φ V x.2 [e.val] ∧ mhas xs k = true ∧ (∀ df, mget xs k df = x.2) ∧ ∀ v, mput xs k v = xs.set j (k, v)
  | [], _, i, h => by
    have h : _ = [] := h
    subst h
    exact .inl ⟨rfl, fun w => by simp [Instr.findAsking], fun _ => rfl, fun _ => rfl⟩
  | x :: xs, _, i, h => by
    obtain ⟨e, r, rfl, h1, h2, h3⟩ := h
    obtain ⟨hs, hq⟩ := heq _ _ h1
    cases hx : keq K x.1 k with
    | true =>
      rw [hx] at hs
      exact .inr ⟨0, e, x, rfl, rfl, hq hx, fun w => by simp [Instr.findAsking, hs w], h2, by simp [mhas, hx], fun df => by simp [mget, hx], fun v => by simp [mput, hx]⟩
    | false =>
      rw [hx] at hs
      rcases findAsking_ents heq (i + 1) h3 with ⟨a1, a2, a3, a4⟩ | ⟨j, e', x', a1, a2, a3, a4, a5, a6, a7, a8⟩
      · exact .inl ⟨by simp [mhas, hx, a1], fun w => by simp [Instr.findAsking, hs w, a2 w], fun df => by simp [mget, hx, a3], fun v => by simp [mput, hx, a4]⟩
      · exact .inr ⟨j + 1, e', x', by simpa using a1, by simpa using a2, a3, fun w => by simp [Instr.findAsking, hs w, a4 w, Nat.add_assoc, Nat.add_comm 1 j], a5, by simp [mhas, hx, a6], fun df => by simp [mget, hx, a7], fun v => by simp [mput, hx, a8]⟩

/-- What is asked of a key. -/
structure KeyFacts (P : Program) (Φ : Nat → Option Obj) (kt : TypeId) (K : Ty) (k : K.D) (v : Value) : Prop where
  rep : KRep Φ K k v
  check : ∀ e w, (Instr.checkKey e 10000 kt v).run P w = .ok () w
  stays : ∀ w, (Instr.keyThatStays v v).run P w = .ok v w
  find : ∀ {V : Ty} {xs : List (K.D × V.D)} {es : List MapEntry}, Ents Φ K V xs es →
    (mhas xs k = false ∧ (∀ w, (Instr.findKey kt v es).run P w = .ok none w) ∧ (∀ df, mget xs k df = df) ∧ ∀ v, mput xs k v = xs ++ [(k, v)]) ∨
    ∃ j e x, es[j]? = some e ∧ xs[j]? = some x ∧ e.key = v ∧ (∀ w, (Instr.findKey kt v es).run P w = .ok (some (j, e.val)) w) ∧ RepT Φ V x.2 [e.val] ∧ mhas xs k = true ∧ (∀ df, mget xs k df = x.2) ∧ ∀ v, mput xs k v = xs.set j (k, v)

theorem KeyFacts.plain {P : Program} {Φ : Nat → Option Obj} {kt : TypeId} {d : TypeDesc} {K : Ty} {k : K.D} {v : Value} (hd : P.underlying kt = some d) (hK : IsKeyK d K) (hr : RepT Φ K k [v]) (hik : MapKept.IsKey d v) : KeyFacts P Φ kt K k v := by
  have hp : isPair K = false := by rcases hK with ⟨q, _, rfl⟩ | ⟨_, rfl⟩ <;> rfl
  have hkr : ∀ (x : K.D) (u : Value), KRep Φ K x u = RepT Φ K x [u] := fun x u => by unfold KRep; rw [hp]; rfl
  refine ⟨by rw [hkr]; exact hr, fun e w => MapKept.run_checkKey hd hik e 9999, fun w => ?_, fun {V xs es} hents => ?_⟩
  · unfold Instr.keyThatStays
    have : Instr.sameBits 10000 v v = true := by cases d <;> cases v <;> simp_all [MapKept.IsKey, Instr.sameBits, (MapKept.bytes_beq _ _).2 rfl]
    simp [this]
  · rcases findNow_ents hK hr 0 hents with ⟨a1, a2, a3, a4⟩ | ⟨j, e, x, a1, a2, a3, a4, a5, a6, a7, a8⟩
    · exact .inl ⟨a1, fun w => MapKept.run_findKey hd a2, a3, a4⟩
    · exact .inr ⟨j, e, x, a1, a2, a3, fun w => by rw [MapKept.run_findKey hd a4, Nat.zero_add], a5, a6, a7, a8⟩

theorem kM_bits : ∀ {K : Ty} {ks r : List TK}, kM K ks = some r → ∀ {Φ : Nat → Option Obj} {x : K.D} {us : List Value}, RepT Φ K x us → ∀ u ∈ us, Instr.sameBits 9999 u u = true
  | .int k, ks, r, h, Φ, x, us, h1, u, hu => by rw [h1.1] at hu; simp at hu; subst hu; simp [Instr.sameBits]
  | .str, ks, r, h, Φ, x, us, h1, u, hu => by rw [h1.1] at hu; simp at hu; subst hu; simp [Instr.sameBits, (MapKept.bytes_beq _ _).2 rfl]
  | .bool, ks, r, h, Φ, x, us, h1, u, hu => by have h1 : us = _ := h1; rw [h1] at hu; simp at hu; subst hu; simp [Instr.sameBits]
  | .pair A B, ks, r, h, Φ, x, us, h1, u, hu => by
    simp only [kM] at h
    split at h
    · rename_i r1 e1
      obtain ⟨u1, u2, rfl, a1, a2⟩ := h1
      rcases List.mem_append.1 hu with hu | hu
      · exact kM_bits e1 a1 u hu
      · exact kM_bits h a2 u hu
    · cases h
  | .byte, ks, r, h, Φ, x, us, h1, u, hu => by cases ks <;> simp [kM] at h
  | .unit, ks, r, h, Φ, x, us, h1, u, hu => by cases ks <;> simp [kM] at h
  | .sl e, ks, r, h, Φ, x, us, h1, u, hu => by cases ks <;> simp [kM] at h

theorem KeyFacts.struct {P : Program} {Φ : Nat → Option Obj} {kt : TypeId} {a b : Ty} {ks : List TK} (hi : eqInfo P kt = some ks) (hm : kM (.pair a b) ks = some []) {k : (Ty.pair a b).D} {vs : Array Value} (hr : RepT Φ (.pair a b) k vs.toList) : KeyFacts P Φ kt (.pair a b) k (.agg vs) := by
  have hkr : ∀ (x : (Ty.pair a b).D) (u : Value), KRep Φ (.pair a b) x u = ∃ us : Array Value, u = .agg us ∧ RepT Φ (.pair a b) x us.toList := fun x u => by unfold KRep; rfl
  have hcv : ∀ {x : (Ty.pair a b).D} {us : Array Value}, RepT Φ (.pair a b) x us.toList → CVal Φ [] (.agg (flat (.pair a b) x)) (.agg us) := fun {x us} h => by
    have := packV_ok (CVals.of_rep (L := []) h)
    simpa using this
  have heq : ∀ (x : (Ty.pair a b).D) (u : Value), KRep Φ (.pair a b) x u → (∀ w, (Op.equal kt (.agg vs) u).run P w = .ok (keq (.pair a b) x k) w) ∧ (keq (.pair a b) x k = true → u = .agg vs) := fun x u hx => by
    rw [hkr] at hx
    obtain ⟨us, rfl, hus⟩ := hx
    have hc := eqCells_flat hm k x [] []
    simp only [List.append_nil, eqCells, Option.map_some, Bool.and_true] at hc
    refine ⟨fun w => (eqInfo_ok hi hc (hcv hr) (hcv hus)).1 w, fun e => ?_⟩
    have hxk := keq_eq hm e
    subst hxk
    have := kM_one hm hus hr
    have : us = vs := by rw [← Array.toArray_toList (xs := us), this, Array.toArray_toList]
    rw [this]
  obtain ⟨fs, hu, hks⟩ : ∃ fs, P.underlying kt = some (.struct fs) ∧ eqKs P 0 fs.toList = some ks := by
    unfold eqInfo at hi
    split at hi
    · rename_i fs hu
      split at hi
      · exact ⟨fs, hu, hi⟩
      · cases hi
    · cases hi
  have hkl : ∀ {fs : List Field} {i : Nat} {ks : List TK}, eqKs P i fs = some ks → fs.length = ks.length := by
    intro fs
    induction fs with
    | nil => intro i ks h; simp [eqKs] at h; subst h; rfl
    | cons f fs ih =>
      intro i ks h
      simp only [eqKs] at h
      split at h
      · split at h
        · rename_i k ks' _ h2
          simp only [Option.some.injEq] at h; subst h
          simp [ih h2]
        · cases h
      · cases h
  have hML : ∀ {K : Ty} {ks r : List TK}, kM K ks = some r → ks.length = K.size + r.length := by
    intro K
    induction K with
    | int k => intro ks r h; cases ks with
      | nil => simp [kM] at h
      | cons q ks =>
        cases q <;> simp only [kM, reduceCtorEq] at h
        split at h
        · simp only [Option.some.injEq] at h; subst h; simp; omega
        · cases h
    | byte => intro ks r h; cases ks <;> simp [kM] at h
    | unit => intro ks r h; cases ks <;> simp [kM] at h
    | sl e ih => intro ks r h; cases ks <;> simp [kM] at h
    | bool => intro ks r h; cases ks with
      | nil => simp [kM] at h
      | cons q ks =>
        cases q <;> simp only [kM, reduceCtorEq] at h
        simp only [Option.some.injEq] at h; subst h; simp; omega
    | str => intro ks r h; cases ks with
      | nil => simp [kM] at h
      | cons q ks =>
        cases q <;> simp only [kM, reduceCtorEq] at h
        simp only [Option.some.injEq] at h; subst h; simp; omega
    | pair A B iha ihb =>
      intro ks r h
      simp only [kM] at h
      split at h
      · rename_i r1 h1
        have e1 := iha h1
        have e2 := ihb h
        simp; omega
      · cases h
  have hsz : fs.toList.length ≤ vs.size := by
    have e1 := hkl hks
    have e2 := hML hm
    have e3 := hr.length
    simp at e2 e3 ⊢
    simp at e1
    omega
  refine ⟨by rw [hkr]; exact ⟨vs, rfl, hr⟩, fun e w => ?_, fun w => ?_, fun {V xs es} hents => ?_⟩
  · rw [show (10000 : Nat) = 9999 + 1 from rfl, Instr.checkKey]
    simp only [Sem.run_bind, run_under hu, Result.andThen_ok]
    rw [← Array.forIn_toList]
    have hsz : 0 + fs.toList.length ≤ vs.size := by simpa using hsz
    generalize 0 = i at hks hsz
    generalize fs.toList = Lf at hks hsz
    clear hm hi hkl hML heq
    induction Lf generalizing i ks with
    | nil => simp
    | cons f Lf ih =>
      simp only [eqKs] at hks
      split at hks
      case isFalse => cases hks
      rename_i hf
      obtain ⟨hf1, hf2⟩ := hf
      split at hks
      case h_2 => cases hks
      rename_i k' ks' hk hks'
      have hlt : i < vs.size := by simp at hsz; omega
      have hv : vs[f.offset]? = some vs[i] := by rw [hf2]; exact Array.getElem?_eq_getElem hlt
      have hp := scK_part hk hv w
      have hc : (Instr.checkKey e 9999 f.type vs[i]).run P w = .ok () w := by
        rw [show (9999 : Nat) = 9998 + 1 from rfl, Instr.checkKey]
        unfold scK at hk
        split at hk <;> simp only [Option.some.injEq, reduceCtorEq] at hk
        all_goals
          rename_i hu'
          simp only [Sem.run_bind, run_under hu', Result.andThen_ok]
          rfl
      simp only [List.forIn_cons, Sem.run_bind, hf1, ne_eq, not_false_eq_true, if_true, Result.andThen_ok, hp, hc, Sem.run_pure]
      exact ih (ks := ks') (i := i + 1) hks' (by simp at hsz; omega)
  · unfold Instr.keyThatStays
    have : Instr.sameBits 10000 (.agg vs) (.agg vs) = true := by
      rw [show (10000 : Nat) = 9999 + 1 from rfl, Instr.sameBits]
      simp only [beq_self_eq_true, Bool.true_and, List.all_eq_true]
      intro p hp
      have key : ∀ (l : List Value) (p : Value × Value), p ∈ l.zip l → p.1 = p.2 ∧ p.1 ∈ l := by
        intro l
        induction l with
        | nil => intro p hp; simp at hp
        | cons y l ih =>
          intro p hp
          simp only [List.zip_cons_cons, List.mem_cons] at hp
          rcases hp with rfl | hp
          · exact ⟨rfl, List.mem_cons_self ..⟩
          · exact ⟨(ih p hp).1, List.mem_cons_of_mem _ (ih p hp).2⟩
      obtain ⟨e1, e2⟩ := key _ p hp
      obtain ⟨p1, p2⟩ := p
      simp only at e1 e2
      subst e1
      exact kM_bits hm hr p1 e2
    simp [this]
  · cases es with
    | nil =>
      cases xs with
      | nil => exact .inl ⟨rfl, fun w => by simp [Instr.findKey, run_under hu, Instr.findNow], fun _ => rfl, fun _ => rfl⟩
      | cons x xs => obtain ⟨e, r, he, _⟩ := hents; cases he
    | cons e es =>
      have hf : ∀ w, (Instr.findKey kt (.agg vs) (e :: es)).run P w = (Instr.findAsking kt (.agg vs) (e :: es)).run P w := fun w => by
        simp [Instr.findKey, run_under hu, Instr.findNow, Instr.sameNow]
      rcases findAsking_ents heq 0 hents with ⟨a1, a2, a3, a4⟩ | ⟨j, e', x, a1, a2, a3, a4, a5, a6, a7, a8⟩
      · exact .inl ⟨a1, fun w => by rw [hf]; exact a2 w, a3, a4⟩
      · exact .inr ⟨j, e', x, a1, a2, a3, fun w => by rw [hf, a4 w, Nat.zero_add], a5, a6, a7, a8⟩

theorem keyD_ok {P : Program} {kt : TypeId} {d : TypeDesc} (hd : P.underlying kt = some d) {K : Ty} {c : AV} {k : K.D} (h : keyD (keyK P kt d) K c = some k) {Φ : Nat → Option Obj} {L : Locs} {v : Value} (hv : CVal Φ L c v) : KeyFacts P Φ kt K k v := by
  unfold keyD at h
  generalize hkd : keyK P kt d = kd at h
  split at h
  · rename_i q q' q'' n
    split at h
    · rename_i hc
      simp only [Option.some.injEq] at h; subst h
      obtain ⟨rfl, rfl⟩ := hc
      have : d = .int q'' := by
        unfold keyK at hkd
        split at hkd
        · split at hkd <;> cases hkd
        · exact kind_int hkd
      subst this
      cases hv with
      | int _ _ hr => exact .plain hd (.inl ⟨_, rfl, rfl⟩) ⟨rfl, hr⟩ (by simp [MapKept.IsKey])
    · cases h
  · rename_i s
    simp only [Option.some.injEq] at h; subst h
    have : d = .string := by
      unfold keyK at hkd
      split at hkd
      · split at hkd <;> cases hkd
      · exact kind_str hkd
    subst this
    cases hv with
    | str _ hr => exact .plain hd (.inr ⟨rfl, rfl⟩) ⟨rfl, hr⟩ (by simp [MapKept.IsKey])
  · rename_i ks a b cs
    split at h
    · rename_i hm
      have hi : eqInfo P kt = some ks := by
        unfold keyK at hkd
        split at hkd
        · split at hkd
          · rename_i ks' hks; simp only [TK.kst.injEq] at hkd; subst hkd; exact hks
          · cases hkd
        · cases d <;> simp_all [kindOf]
      obtain ⟨vs, rfl, hcs⟩ : ∃ vs, v = .agg vs ∧ CVals Φ L cs vs.toList := by
        cases hv with
        | agg _ vs h1 h2 h3 => exact ⟨vs, rfl, CVals.of_agg (.agg _ _ h1 h2 h3)⟩
      exact .struct hi hm (unflat1_ok h hcs)
    · cases h
  · cases h

def lookupQ (mi : TypeId × TypeId × TK × AV) (H : List AObj) (m k : AV) (ok : Bool) : Option QR := match m with
  | .omap γ => match H[γ]? with
    | some (.map K V xs) => match keyD mi.2.2.1 K k, unflat1 V [mi.2.2.2] with
      | some kv, some d => if V.size = 1 then some ⟨True, True, if ok then .tup [(flat V (mget xs kv d)).headD .any, .bool (mhas xs kv)] else (flat V (mget xs kv d)).headD .any⟩ else none
      | _, _ => none
    | _ => none
  | _ => none

section
variable {P : Program} {C : Ctx} {Φ : Nat → Option Obj} {L : Locs} {H : List AObj} {w : World}

theorem word_rep {T : Ty} {x : T.D} {v : Value} (hs : T.size = 1) (h : RepT Φ T x [v]) : CVal Φ L ((flat T x).headD .any) v := by
  have hcv := CVals.of_rep (L := L) h
  cases hfl : flat T x with
  | nil => rw [hfl] at hcv; simp [CVals] at hcv
  | cons c cs =>
    rw [hfl] at hcv
    obtain ⟨v', ws, he, _, h2, _⟩ := hcv.inv_cons
    simp only [List.cons.injEq] at he
    rw [he.1]; exact h2

theorem tup2 {a b : AV} {u v : Value} (h : CVal Φ L a u) (k : CVal Φ L b v) : CVal Φ L (.tup [a, b]) (.tuple #[u, v]) := by
  refine .tup _ _ rfl fun i c x hc hv => ?_
  rcases i with _ | _ | i
  · simp at hc hv; subst hc; subst hv; exact h
  · simp at hc hv; subst hc; subst hv; exact k
  · simp at hc

theorem lookupQ_ok {t : TypeId} {mi : TypeId × TypeId × TK × AV} (hmi : mapInfo P t = some mi) {m k : AV} {ok : Bool} {r : QR} (h : lookupQ mi H m k ok = some r) (hI : Inv C Φ L H w) {u v : Value} (hu : CVal Φ L m u) (hv : CVal Φ L k v) :
    ∃ x, CVal Φ L r.av x ∧ r.post ∧ ∀ w', Agr Φ L H w w' → (Instr.lookup t u v ok).run P w' = .ok x w' := by
  obtain ⟨kt, et, kd, za⟩ := mi
  unfold lookupQ at h
  split at h
  · rename_i γ
    split at h
    · rename_i K V xs ho
      split at h
      · rename_i kv df hkey hdf
        split at h
        · rename_i hV
          simp only [Option.some.injEq] at h; subst h
          obtain ⟨l, hl, g, cap, es, clock, rfl, hg, hents⟩ := hI.obj γ _ ho
          cases hu with
          | omap _ g' cap' hl' =>
            rw [hl] at hl'; simp only [Option.some.injEq, Prod.mk.injEq] at hl'
            obtain ⟨rfl, rfl⟩ := hl'
            obtain ⟨d, z, ht, hd, rfl, hz, hone, hza⟩ := mapInfo_ok hmi w
            have kf := keyD_ok hd hkey hv
            have hzr : RepT Φ V df [z] := by
              refine unflat1_ok (L := L) hdf (CVals.cons hone ?_ .nil)
              rw [← hza]; exact aof_ok Φ L z
            have hrun : ∀ w', Agr Φ L H w w' → w'.heap[g]? = some (.map es clock) ∧ (zeroValue et).run P w' = .ok z w' := fun w' ha => by
              refine ⟨by rw [ha.2 γ _ g cap ho rfl hl]; exact hg, ?_⟩
              obtain ⟨i, hi⟩ : ∃ i, P.info? et = some i := by
                cases hi : P.info? et with
                | none => simp [zeroValue, typeInfo, hi] at hz
                | some i => exact ⟨i, rfl⟩
              simp only [zeroValue, typeInfo, Sem.run_bind, run_program, Result.andThen, hi] at hz ⊢
              cases hiz : i.zero with
              | none => simp [hiz] at hz
              | some zz => simp [hiz] at hz ⊢; exact hz
            rcases kf.find hents with ⟨a1, a2, a3, _⟩ | ⟨j, e, x, a1, a2, a3, a4, a5, a6, a7, _⟩
            · refine ⟨if ok then .tuple #[z, .bool false] else z, ?_, trivial, fun w' ha => ?_⟩
              · have hw := word_rep (L := L) hV hzr
                simp only [a1, a3]
                cases ok with
                | false => exact hw
                | true => exact tup2 hw (.bool _)
              · obtain ⟨b1, b2⟩ := hrun w' ha
                simp [Instr.lookup, run_underlying ht, MapKept.run_getObj_map b1, kf.check, a2, b2, Result.andThen]
            · refine ⟨if ok then .tuple #[e.val, .bool true] else e.val, ?_, trivial, fun w' ha => ?_⟩
              · have hw := word_rep (L := L) hV a5
                simp only [a6, a7]
                cases ok with
                | false => exact hw
                | true => exact tup2 hw (.bool _)
              · obtain ⟨b1, b2⟩ := hrun w' ha
                simp [Instr.lookup, run_underlying ht, MapKept.run_getObj_map b1, kf.check, a4, Result.andThen]
        · cases h
      · cases h
    · cases h
  · cases h

def lenMapQ (mi : TypeId × TypeId × TK × AV) (H : List AObj) (m : AV) : Option QR := match m with
  | .omap γ => match H[γ]? with
    | some (.map K V xs) => some ⟨(xs.length : Int) ≤ 9223372036854775807, True, .int .i64 (xs.length : Int)⟩
    | _ => none
  | _ => none

theorem Ents.length {K V : Ty} : ∀ {xs : List (K.D × V.D)} {es : List MapEntry}, Ents Φ K V xs es → es.length = xs.length
  | [], _, h => by have h : _ = [] := h; subst h; rfl
  | x :: xs, _, h => by obtain ⟨e, r, rfl, _, _, h3⟩ := h; simp [h3.length]

theorem lenMapQ_ok {t ty : TypeId} {mi : TypeId × TypeId × TK × AV} (hmi : mapInfo P t = some mi) {m : AV} {r : QR} (h : lenMapQ mi H m = some r) (hp : r.pre) (hI : Inv C Φ L H w) {u : Value} (hu : CVal Φ L m u) :
    ∃ x, CVal Φ L r.av x ∧ r.post ∧ ∀ w', Agr Φ L H w w' → (Builtin.len_ #[t] ty #[u]).run P w' = .ok x w' := by
  obtain ⟨kt, et, kd, za⟩ := mi
  unfold lenMapQ at h
  split at h
  · rename_i γ
    split at h
    · rename_i K V xs ho
      simp only [Option.some.injEq] at h; subst h
      obtain ⟨l, hl, g, cap, es, clock, rfl, hg, hents⟩ := hI.obj γ _ ho
      cases hu with
      | omap _ g' cap' hl' =>
        rw [hl] at hl'; simp only [Option.some.injEq, Prod.mk.injEq] at hl'
        obtain ⟨rfl, rfl⟩ := hl'
        obtain ⟨d, z, ht, _⟩ := mapInfo_ok hmi w
        have hn := hents.length
        rw [Array.length_toList] at hn
        have hp : (xs.length : Int) ≤ 9223372036854775807 := hp
        refine ⟨_, .int _ _ (by simp [inR]; omega), trivial, fun w' ha => ?_⟩
        have b1 : w'.heap[g]? = some (.map es clock) := by rw [ha.2 γ _ g cap ho rfl hl]; exact hg
        simp [Builtin.len_, run_underlying ht, MapKept.run_getObj_map b1, goInt, Result.andThen, hn]
    · cases h
  · cases h
end
end Go.Proofs.Ythojapklndjidaa
