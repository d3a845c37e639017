/- Maps: what is read of them. -/
import Derived.Test.YtfinneebcfcdjaaSy7
import Derived.MapKept
namespace Go.Proofs.Ytfinneebcfcdjaa
open Go Go.RowKit
set_option linter.unusedVariables false
set_option linter.all false

section
variable {P : Program} {C : Ctx} {Φ : Nat → Option Obj} {L : Locs} {H : List AObj} {w : World}
/-! ### Typed data out of words -/

def unflat : (T : Ty) → List AV → Option (T.D × List AV)
  | .int k, c :: r => match c with
    | .int k' n => if k' = k then some (n, r) else none
    | _ => none
  | .byte, c :: r => match c with
    | .int .u8 n => some (UInt8.ofNat n.toNat, r)
    | _ => none
  | .bool, c :: r => match c with
    | .bool b => some (b, r)
    | _ => none
  | .str, c :: r => match c with
    | .str s => some (s, r)
    | _ => none
  | .unit, r => some ((), r)
  | .pair a b, cs => match unflat a cs with
    | some (x, r) => match unflat b r with
      | some (y, r') => some ((x, y), r')
      | none => none
    | none => none
  | .sl e, c :: r => match c with
    | .sl e' xs => if h : e' = e then some (cast (congrArg (fun e => List (Ty.D e)) h) xs, r) else none
    | .nilsl => some ([], r)
    | _ => none
  | _, [] => none

theorem unflat_ok : ∀ {T : Ty} {cs r : List AV} {x : T.D} {vs : List Value}, unflat T cs = some (x, r) → CVals Φ L cs vs → ∃ v1 v2, vs = v1 ++ v2 ∧ RepT Φ T x v1 ∧ CVals Φ L r v2
  | .int k, [], r, x, vs, h, hc => by simp [unflat] at h
  | .int k, c :: cs, r, x, vs, h, hc => by
    simp only [unflat] at h
    split at h
    · split at h
      · rename_i k' n hk
        subst hk
        simp only [Option.some.injEq, Prod.mk.injEq] at h
        obtain ⟨rfl, rfl⟩ := h
        obtain ⟨v, ws, rfl, _, hv, hs⟩ := hc.inv_cons
        cases hv with
        | int _ _ hr => exact ⟨[_], ws, rfl, ⟨rfl, hr⟩, hs⟩
      · cases h
    · cases h
  | .byte, [], r, x, vs, h, hc => by simp [unflat] at h
  | .byte, c :: cs, r, x, vs, h, hc => by
    simp only [unflat] at h
    split at h
    · rename_i n
      simp only [Option.some.injEq, Prod.mk.injEq] at h
      obtain ⟨rfl, rfl⟩ := h
      obtain ⟨v, ws, rfl, _, hv, hs⟩ := hc.inv_cons
      cases hv with
      | int _ _ hr =>
        refine ⟨[_], ws, rfl, ?_, hs⟩
        simp only [inR] at hr
        have : ((UInt8.ofNat n.toNat).toNat : Int) = n := by
          rw [UInt8.toNat_ofNat']; omega
        simp only [RepT, this]
    · cases h
  | .bool, [], r, x, vs, h, hc => by simp [unflat] at h
  | .bool, c :: cs, r, x, vs, h, hc => by
    simp only [unflat] at h
    split at h
    · simp only [Option.some.injEq, Prod.mk.injEq] at h
      obtain ⟨rfl, rfl⟩ := h
      obtain ⟨v, ws, rfl, _, hv, hs⟩ := hc.inv_cons
      cases hv
      exact ⟨[_], ws, rfl, rfl, hs⟩
    · cases h
  | .str, [], r, x, vs, h, hc => by simp [unflat] at h
  | .str, c :: cs, r, x, vs, h, hc => by
    simp only [unflat] at h
    split at h
    · simp only [Option.some.injEq, Prod.mk.injEq] at h
      obtain ⟨rfl, rfl⟩ := h
      obtain ⟨v, ws, rfl, _, hv, hs⟩ := hc.inv_cons
      cases hv with
      | str _ hr => exact ⟨[_], ws, rfl, ⟨rfl, hr⟩, hs⟩
    · cases h
  | .unit, cs, r, x, vs, h, hc => by
    simp only [unflat, Option.some.injEq, Prod.mk.injEq] at h
    obtain ⟨_, rfl⟩ := h
    exact ⟨[], vs, rfl, rfl, hc⟩
  | .pair a b, cs, r, x, vs, h, hc => by
    simp only [unflat] at h
    split at h
    · rename_i x1 r1 h1
      split at h
      · rename_i y r2 h2
        simp only [Option.some.injEq, Prod.mk.injEq] at h
        obtain ⟨rfl, rfl⟩ := h
        obtain ⟨v1, v2, rfl, e1, e2⟩ := unflat_ok h1 hc
        obtain ⟨v3, v4, rfl, e3, e4⟩ := unflat_ok h2 e2
        exact ⟨v1 ++ v3, v4, by simp, ⟨v1, v3, rfl, e1, e3⟩, e4⟩
      · cases h
    · cases h
  | .sl e, [], r, x, vs, h, hc => by simp [unflat] at h
  | .sl e, c :: cs, r, x, vs, h, hc => by
    simp only [unflat] at h
    split at h
    · split at h
      · rename_i e' xs he
        subst he
        simp only [Option.some.injEq, Prod.mk.injEq] at h
        obtain ⟨rfl, rfl⟩ := h
        obtain ⟨v, ws, rfl, _, hv, hs⟩ := hc.inv_cons
        cases hv with
        | sl _ _ _ hr => exact ⟨[v], ws, rfl, hr, hs⟩
      · cases h
    · simp only [Option.some.injEq, Prod.mk.injEq] at h
      obtain ⟨rfl, rfl⟩ := h
      obtain ⟨v, ws, rfl, _, hv, hs⟩ := hc.inv_cons
      cases hv
      exact ⟨[_], ws, rfl, ⟨none, 0, rfl, Nat.le_refl _, Nat.zero_le _, .inl rfl⟩, hs⟩
    · cases h

/-- One datum, all of it. -/
def unflat1 (T : Ty) (cs : List AV) : Option T.D := match unflat T cs with
  | some (x, []) => some x
  | _ => none

theorem unflat1_ok {T : Ty} {cs : List AV} {x : T.D} {vs : List Value} (h : unflat1 T cs = some x) (hc : CVals Φ L cs vs) : RepT Φ T x vs := by
  unfold unflat1 at h
  split at h
  · rename_i x' hu
    simp only [Option.some.injEq] at h; subst h
    obtain ⟨v1, v2, rfl, h1, h2⟩ := unflat_ok hu hc
    have := h2.inv_nil
    subst this
    simpa using h1
  · cases h

end

def keq : (K : Ty) → K.D → K.D → Bool
  | .int _, a, b => decide ((a : Int) = b)
  | .str, a, b => decide ((a : List UInt8) = b)
  | _, _, _ => false
def mget {K V : Ty} : List (K.D × V.D) → K.D → V.D → V.D
  | [], _, d => d
  | x :: r, k, d => if keq K x.1 k = true then x.2 else mget r k d
def mhas {K V : Ty} : List (K.D × V.D) → K.D → Bool
  | [], _ => false
  | x :: r, k => keq K x.1 k || mhas r k
def mput {K V : Ty} : List (K.D × V.D) → K.D → V.D → List (K.D × V.D)
  | [], k, v => [(k, v)]
  | x :: r, k, v => if keq K x.1 k = true then (k, v) :: r else x :: mput r k v

/-- The kind of a map's keys, the zero of its elements. -/
def mapInfo (P : Program) (t : TypeId) : Option (TypeId × TypeId × TK × AV) := match P.underlying t with
  | some (.map k e) => match P.underlying k, P.info? e with
    | some d, some i => i.zero.bind fun z => if z.oneCell' = true then some (k, e, kindOf P d, aof z) else none
    | _, _ => none
  | _ => none

theorem mapInfo_ok {P : Program} {t k e : TypeId} {kd : TK} {za : AV} (h : mapInfo P t = some (k, e, kd, za)) (w : World) : ∃ d z, P.underlying t = some (.map k e) ∧ P.underlying k = some d ∧ kindOf P d = kd ∧ (zeroValue e).run P w = .ok z w ∧ z.oneCell' = true ∧ aof z = za := by
  unfold mapInfo at h
  split at h
  · rename_i k' e' ht
    split at h
    · rename_i d i hd hi
      simp only [Option.bind_eq_some_iff] at h
      obtain ⟨z, hz, h⟩ := h
      split at h
      · rename_i hone
        simp only [Option.some.injEq, Prod.mk.injEq] at h
        obtain ⟨rfl, rfl, rfl, rfl⟩ := h
        refine ⟨d, z, ht, hd, rfl, ?_, hone, rfl⟩
        simp [zeroValue, typeInfo, hi, hz]
      · cases h
    · cases h
  · cases h

def keyD : TK → (K : Ty) → AV → Option K.D
  | .int q, .int q', .int q'' n => if q = q' ∧ q'' = q' then some n else none
  | .str, .str, .str s => some s
  | _, _, _ => none

def IsKeyK (d : TypeDesc) (K : Ty) : Prop := (∃ q, d = .int q ∧ K = .int q) ∨ (d = .string ∧ K = .str)

theorem keyD_ok {P : Program} {d : TypeDesc} {K : Ty} {c : AV} {k : K.D} (h : keyD (kindOf P d) K c = some k) {Φ : Nat → Option Obj} {L : Locs} {v : Value} (hv : CVal Φ L c v) : IsKeyK d K ∧ RepT Φ K k [v] ∧ MapKept.IsKey d v := by
  unfold keyD at h
  generalize hkd : kindOf P d = kd at h
  split at h
  · rename_i q q' q'' n
    split at h
    · rename_i hc
      simp only [Option.some.injEq] at h; subst h
      obtain ⟨rfl, rfl⟩ := hc
      have := kind_int hkd
      subst this
      cases hv with
      | int _ _ hr => exact ⟨.inl ⟨_, rfl, rfl⟩, ⟨rfl, hr⟩, by simp [MapKept.IsKey]⟩
    · cases h
  · rename_i s
    simp only [Option.some.injEq] at h; subst h
    have := kind_str hkd
    subst this
    cases hv with
    | str _ hr => exact ⟨.inr ⟨rfl, rfl⟩, ⟨rfl, hr⟩, by simp [MapKept.IsKey]⟩
  · cases h

theorem sameNow_keq {Φ : Nat → Option Obj} {d : TypeDesc} {K : Ty} (hd : IsKeyK d K) {a b : K.D} {u v : Value} (hu : RepT Φ K a [u]) (hv : RepT Φ K b [v]) : Instr.sameNow d u v = some (keq K b a) ∧ (keq K b a = true → b = a ∧ u = v) := by
  rcases hd with ⟨q, rfl, rfl⟩ | ⟨rfl, rfl⟩
  · obtain ⟨h1, _⟩ := hu
    obtain ⟨h2, _⟩ := hv
    simp only [List.cons.injEq, and_true] at h1 h2
    subst h1; subst h2
    change Int at a b
    have e : Instr.sameNow (.int q) (.int q a) (.int q b) = some (a == b) := by simp [Instr.sameNow]
    have k : keq (.int q) b a = decide (b = a) := rfl
    rw [e, k]
    constructor
    · congr 1
      by_cases h : a = b
      · subst h; simp
      · have h' : ¬ b = a := fun e => h e.symm
        simp [h, h']
    · intro h
      have h : b = a := of_decide_eq_true h
      subst h; exact ⟨rfl, rfl⟩
  · obtain ⟨h1, _⟩ := hu
    obtain ⟨h2, _⟩ := hv
    simp only [List.cons.injEq, and_true] at h1 h2
    subst h1; subst h2
    change List UInt8 at a b
    have e : Instr.sameNow .string (.string ⟨a.toArray⟩) (.string ⟨b.toArray⟩) = some ((⟨a.toArray⟩ : ByteArray) == ⟨b.toArray⟩) := rfl
    have k : keq .str b a = decide (b = a) := rfl
    rw [e, k]
    constructor
    · congr 1
      by_cases h : a = b
      · subst h
        rw [(MapKept.bytes_beq _ _).2 rfl]; simp
      · have h' : ¬ b = a := fun e => h e.symm
        simp only [h', decide_false]
        cases hx : ((⟨a.toArray⟩ : ByteArray) == ⟨b.toArray⟩) with
        | false => rfl
        | true =>
          have := (MapKept.bytes_beq _ _).1 hx
          simp at this
          exact absurd this h
    · intro h
      have h : b = a := of_decide_eq_true h
      subst h; exact ⟨rfl, rfl⟩

theorem findNow_ents {Φ : Nat → Option Obj} {d : TypeDesc} {K V : Ty} (hd : IsKeyK d K) {k : K.D} {key : Value} (hk : RepT Φ K k [key]) :
    ∀ {xs : List (K.D × V.D)} {es : List MapEntry} (i : Nat), Ents Φ K V xs es →
    (mhas xs k = false ∧ Instr.findNow d key es i = some none ∧ (∀ df, mget xs k df = df) ∧ ∀ v, mput xs k v = xs ++ [(k, v)]) ∨
    ∃ j e x, es[j]? = some e ∧ xs[j]? = some x ∧ e.key = key ∧ Instr.findNow d key es i = some (some (i + j, e.val)) ∧ RepT Φ V x.2 [e.val] ∧ mhas xs k = true ∧ (∀ df, mget xs k df = x.2) ∧ ∀ v, mput xs k v = xs.set j (k, v)
  | [], _, i, h => by
    have h : _ = [] := h
    subst h
    exact .inl ⟨rfl, rfl, fun _ => rfl, fun _ => rfl⟩
  | x :: xs, _, i, h => by
    obtain ⟨e, r, rfl, h1, h2, h3⟩ := h
    obtain ⟨hs, hq⟩ := sameNow_keq hd hk h1
    cases hx : keq K x.1 k with
    | true =>
      rw [hx] at hs
      obtain ⟨_, hq⟩ := hq hx
      exact .inr ⟨0, e, x, rfl, rfl, hq.symm, by simp [Instr.findNow, hs], h2, by simp [mhas, hx], fun df => by simp [mget, hx], fun v => by simp [mput, hx]⟩
    | false =>
      rw [hx] at hs
      rcases findNow_ents hd hk (i + 1) h3 with ⟨a1, a2, a3, a4⟩ | ⟨j, e', x', a1, a2, a3, a4, a5, a6, a7, a8⟩
      · exact .inl ⟨by simp [mhas, hx, a1], by simp [Instr.findNow, hs, a2], fun df => by simp [mget, hx, a3], fun v => by simp [mput, hx, a4]⟩
      · exact .inr ⟨j + 1, e', x', by simpa using a1, by simpa using a2, a3, by simp [Instr.findNow, hs, a4]; omega, a5, by simp [mhas, hx, a6], fun df => by simp [mget, hx, a7], fun v => by simp [mput, hx, a8]⟩

def lookupQ (mi : TypeId × TypeId × TK × AV) (H : List AObj) (m k : AV) (ok : Bool) : Option QR := match m with
  | .omap γ => match H[γ]? with
    | some (.map K V xs) => match keyD mi.2.2.1 K k, unflat1 V [mi.2.2.2] with
      | some kv, some d => if V.size = 1 then some ⟨True, True, if ok then .tup [(flat V (mget xs kv d)).headD .any, .bool (mhas xs kv)] else (flat V (mget xs kv d)).headD .any⟩ else none
      | _, _ => none
    | _ => none
  | _ => none

section
variable {P : Program} {C : Ctx} {Φ : Nat → Option Obj} {L : Locs} {H : List AObj} {w : World}

theorem word_rep {T : Ty} {x : T.D} {v : Value} (hs : T.size = 1) (h : RepT Φ T x [v]) : CVal Φ L ((flat T x).headD .any) v := by
  have hcv := CVals.of_rep (L := L) h
  cases hfl : flat T x with
  | nil => rw [hfl] at hcv; simp [CVals] at hcv
  | cons c cs =>
    rw [hfl] at hcv
    obtain ⟨v', ws, he, _, h2, _⟩ := hcv.inv_cons
    simp only [List.cons.injEq] at he
    rw [he.1]; exact h2

theorem tup2 {a b : AV} {u v : Value} (h : CVal Φ L a u) (k : CVal Φ L b v) : CVal Φ L (.tup [a, b]) (.tuple #[u, v]) := by
  refine .tup _ _ rfl fun i c x hc hv => ?_
  rcases i with _ | _ | i
  · simp at hc hv; subst hc; subst hv; exact h
  · simp at hc hv; subst hc; subst hv; exact k
  · simp at hc

theorem lookupQ_ok {t : TypeId} {mi : TypeId × TypeId × TK × AV} (hmi : mapInfo P t = some mi) {m k : AV} {ok : Bool} {r : QR} (h : lookupQ mi H m k ok = some r) (hI : Inv C Φ L H w) {u v : Value} (hu : CVal Φ L m u) (hv : CVal Φ L k v) :
    ∃ x, CVal Φ L r.av x ∧ r.post ∧ ∀ w', Agr Φ L H w w' → (Instr.lookup t u v ok).run P w' = .ok x w' := by
  obtain ⟨kt, et, kd, za⟩ := mi
  unfold lookupQ at h
  split at h
  · rename_i γ
    split at h
    · rename_i K V xs ho
      split at h
      · rename_i kv df hkey hdf
        split at h
        · rename_i hV
          simp only [Option.some.injEq] at h; subst h
          obtain ⟨l, hl, g, cap, es, clock, rfl, hg, hents⟩ := hI.obj γ _ ho
          cases hu with
          | omap _ g' cap' hl' =>
            rw [hl] at hl'; simp only [Option.some.injEq, Prod.mk.injEq] at hl'
            obtain ⟨rfl, rfl⟩ := hl'
            obtain ⟨d, z, ht, hd, rfl, hz, hone, hza⟩ := mapInfo_ok hmi w
            obtain ⟨hK, hkr, hik⟩ := keyD_ok hkey hv
            have hzr : RepT Φ V df [z] := by
              refine unflat1_ok (L := L) hdf (CVals.cons hone ?_ .nil)
              rw [← hza]; exact aof_ok Φ L z
            have hrun : ∀ w', Agr Φ L H w w' → w'.heap[g]? = some (.map es clock) ∧ (zeroValue et).run P w' = .ok z w' := fun w' ha => by
              refine ⟨by rw [ha.2 γ _ g cap ho rfl hl]; exact hg, ?_⟩
              obtain ⟨i, hi⟩ : ∃ i, P.info? et = some i := by
                cases hi : P.info? et with
                | none => simp [zeroValue, typeInfo, hi] at hz
                | some i => exact ⟨i, rfl⟩
              simp only [zeroValue, typeInfo, Sem.run_bind, run_program, Result.andThen, hi] at hz ⊢
              cases hiz : i.zero with
              | none => simp [hiz] at hz
              | some zz => simp [hiz] at hz ⊢; exact hz
            rcases findNow_ents hK hkr 0 hents with ⟨a1, a2, a3, _⟩ | ⟨j, e, x, a1, a2, a3, a4, a5, a6, a7, _⟩
            · refine ⟨if ok then .tuple #[z, .bool false] else z, ?_, trivial, fun w' ha => ?_⟩
              · have hw := word_rep (L := L) hV hzr
                simp only [a1, a3]
                cases ok with
                | false => exact hw
                | true => exact tup2 hw (.bool _)
              · obtain ⟨b1, b2⟩ := hrun w' ha
                simp [Instr.lookup, run_underlying ht, MapKept.run_getObj_map b1, MapKept.run_checkKey hd hik, MapKept.run_findKey hd a2, b2, Result.andThen]
            · refine ⟨if ok then .tuple #[e.val, .bool true] else e.val, ?_, trivial, fun w' ha => ?_⟩
              · have hw := word_rep (L := L) hV a5
                simp only [a6, a7]
                cases ok with
                | false => exact hw
                | true => exact tup2 hw (.bool _)
              · obtain ⟨b1, b2⟩ := hrun w' ha
                simp [Instr.lookup, run_underlying ht, MapKept.run_getObj_map b1, MapKept.run_checkKey hd hik, MapKept.run_findKey hd a4, Result.andThen]
        · cases h
      · cases h
    · cases h
  · cases h

def lenMapQ (mi : TypeId × TypeId × TK × AV) (H : List AObj) (m : AV) : Option QR := match m with
  | .omap γ => match H[γ]? with
    | some (.map K V xs) => some ⟨(xs.length : Int) ≤ 9223372036854775807, True, .int .i64 (xs.length : Int)⟩
    | _ => none
  | _ => none

theorem Ents.length {K V : Ty} : ∀ {xs : List (K.D × V.D)} {es : List MapEntry}, Ents Φ K V xs es → es.length = xs.length
  | [], _, h => by have h : _ = [] := h; subst h; rfl
  | x :: xs, _, h => by obtain ⟨e, r, rfl, _, _, h3⟩ := h; simp [h3.length]

theorem lenMapQ_ok {t ty : TypeId} {mi : TypeId × TypeId × TK × AV} (hmi : mapInfo P t = some mi) {m : AV} {r : QR} (h : lenMapQ mi H m = some r) (hp : r.pre) (hI : Inv C Φ L H w) {u : Value} (hu : CVal Φ L m u) :
    ∃ x, CVal Φ L r.av x ∧ r.post ∧ ∀ w', Agr Φ L H w w' → (Builtin.len_ #[t] ty #[u]).run P w' = .ok x w' := by
  obtain ⟨kt, et, kd, za⟩ := mi
  unfold lenMapQ at h
  split at h
  · rename_i γ
    split at h
    · rename_i K V xs ho
      simp only [Option.some.injEq] at h; subst h
      obtain ⟨l, hl, g, cap, es, clock, rfl, hg, hents⟩ := hI.obj γ _ ho
      cases hu with
      | omap _ g' cap' hl' =>
        rw [hl] at hl'; simp only [Option.some.injEq, Prod.mk.injEq] at hl'
        obtain ⟨rfl, rfl⟩ := hl'
        obtain ⟨d, z, ht, _⟩ := mapInfo_ok hmi w
        have hn := hents.length
        rw [Array.length_toList] at hn
        have hp : (xs.length : Int) ≤ 9223372036854775807 := hp
        refine ⟨_, .int _ _ (by simp [inR]; omega), trivial, fun w' ha => ?_⟩
        have b1 : w'.heap[g]? = some (.map es clock) := by rw [ha.2 γ _ g cap ho rfl hl]; exact hg
        simp [Builtin.len_, run_underlying ht, MapKept.run_getObj_map b1, goInt, Result.andThen, hn]
    · cases h
  · cases h
end
end Go.Proofs.Ytfinneebcfcdjaa
