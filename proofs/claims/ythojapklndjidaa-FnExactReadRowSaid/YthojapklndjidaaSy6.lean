/- More quiet operations. -/
import Derived.Test.YthojapklndjidaaSy5
import Derived.Lib.Strings
namespace Go.Proofs.Ythojapklndjidaa
open Go Go.RowKit
set_option linter.unusedVariables false
set_option linter.all false

section
variable {P : Program} {C : Ctx} {Φ : Nat → Option Obj} {L : Locs} {H : List AObj} {w : World}

/-! ### A field of a struct's value -/

def fieldQ (P : Program) (ti : TI) (j : Nat) : AV → Option QR
  | .agg cs => match ti.kind with
    | .st fs => match fs[j]? with
      | some (o, s, ft) => match tinfo P ft with
        | some te => if te.size = s ∧ o + s ≤ cs.length ∧ (te.agg = false → s = 1) then some ⟨True, True, pack te.agg (subl cs o s)⟩ else none
        | none => none
      | none => none
    | _ => none
  | _ => none

theorem run_part {t : TypeId} {ti : TI} (ht : tinfo P t = some ti) (vs : Array Value) (o : Nat) (h1 : ti.agg = false → ti.size = 1) (h2 : o + ti.size ≤ vs.size) (w : World) :
    (part t vs o).run P w = .ok (packV ti.agg ((vs.toList.drop o).take ti.size)) w := by
  obtain ⟨i, d, hi, hd, rfl⟩ := tinfo_spec ht
  have hag : (isAgg t).run P w = .ok (aggD d) w := by
    unfold isAgg
    simp [run_underlying hd]
    cases d <;> simp [aggD]
  simp only [part, Sem.run_bind, hag, Result.andThen_ok, Sem.run_ite]
  by_cases h : aggD d = true
  · simp [h, sizeOf, typeInfo, hi]
    apply Array.toList_inj.1
    simp [List.extract_eq_take_drop]
  · have h' : aggD d = false := by simpa using h
    have hs : i.size = 1 := h1 h'
    have hlt : o < vs.size := by simp only at h2; omega
    simp [h', hs, Array.getElem?_eq_getElem hlt]
    rw [List.drop_eq_getElem_cons (by simpa using hlt)]
    simp

theorem fieldQ_ok {t : TypeId} {ti : TI} (ht : tinfo P t = some ti) {j : Nat} {x : AV} {r : QR} (h : fieldQ P ti j x = some r) {u : Value} (hu : CVal Φ L x u) :
    ∃ v, CVal Φ L r.av v ∧ r.post ∧ ∀ w', (Instr.field t u j).run P w' = .ok v w' := by
  unfold fieldQ at h
  split at h
  · rename_i cs
    split at h
    · rename_i fs hk
      split at h
      · rename_i o s ft hj
        split at h
        · rename_i te hte
          split at h
          · rename_i hs
            simp only [Option.some.injEq] at h; subst h
            obtain ⟨hs1, hs2, hs3⟩ := hs
            subst hs1
            obtain ⟨vs, rfl, hc⟩ : ∃ vs : Array Value, u = .agg vs ∧ CVals Φ L cs vs.toList := by cases hu with | agg _ vs h1 h2 h3 => exact ⟨vs, rfl, CVals.of_agg (.agg _ _ h1 h2 h3)⟩
            refine ⟨packV te.agg ((vs.toList.drop o).take te.size), pack_ok (hc.sub o te.size) te.agg fun h => ?_, trivial, fun w' => ?_⟩
            · have := hs3 h
              simp only [subl, List.length_take, List.length_drop]; omega
            · obtain ⟨i, d, hi, hd, hti⟩ := tinfo_spec ht
              rw [hti] at hk
              obtain ⟨f, rfl, rfl⟩ := kind_st hk
              rw [List.getElem?_map] at hj
              cases hf : f.toList[j]? with
              | none => rw [hf] at hj; simp at hj
              | some fl =>
                rw [hf] at hj
                simp only [Option.map_some, Option.some.injEq, Prod.mk.injEq] at hj
                obtain ⟨rfl, _, rfl⟩ := hj
                have hf' : f[j]? = some fl := by simpa using hf
                have hp := run_part hte vs fl.offset hs3 (by have := hc.1; simp at this; omega) w'
                simp only [Instr.field, Sem.run_bind, run_underlying hd, Result.andThen_ok, hf', asAgg, Sem.run_pure, hp]
          · cases h
        · cases h
      · cases h
    · cases h
  · cases h

/-! ### One word, conversions -/

def bNot (k : IntKind) (n : Int) : Int := bXor k (if k.signed then -1 else k.max) n

def unAV (op : UnOp) : AV → Option QR
  | .bool b => match op with
    | .not => some ⟨True, True, .bool (!b)⟩
    | _ => none
  | .int k n => match op with
    | .neg => some ⟨True, True, .int k (k.wrap (0 - n))⟩
    | .xor => some ⟨True, True, .int k (bNot k n)⟩
    | _ => none
  | _ => none

theorem unAV_ok {op : UnOp} {x : AV} {r : QR} (h : unAV op x = some r) {u : Value} (hu : CVal Φ L x u) : ∃ v, CVal Φ L r.av v ∧ r.post ∧ ∀ w', (Op.unary op u).run P w' = .ok v w' := by
  unfold unAV at h
  split at h
  · cases hu
    cases op <;> simp only [Option.some.injEq, reduceCtorEq] at h <;> subst h
    exact ⟨_, .bool _, trivial, fun w' => rfl⟩
  · cases hu
    cases op <;> simp only [Option.some.injEq, reduceCtorEq] at h <;> subst h
    · exact ⟨_, .int _ _ (inR_wrap _ _), trivial, fun w' => rfl⟩
    · exact ⟨_, .int _ _ (inR_wrap _ _), trivial, fun w' => rfl⟩
  · cases h

def convQ (ts td : TI) : AV → Option QR
  | .int _ n => match td.kind with
    | .int k => some ⟨True, True, .int k (k.wrap n)⟩
    | _ => none
  | .str s => match td.kind with
    | .str => some ⟨True, True, .str s⟩
    | _ => none
  | _ => none

theorem convQ_ok {src dst : TypeId} {ts td : TI} (hs : tinfo P src = some ts) (hd : tinfo P dst = some td) {x : AV} {r : QR} (h : convQ ts td x = some r) {u : Value} (hu : CVal Φ L x u) :
    ∃ v, CVal Φ L r.av v ∧ r.post ∧ ∀ w', (convert src dst u).run P w' = .ok v w' := by
  obtain ⟨i, d, hi, hds, _⟩ := tinfo_spec hs
  unfold convQ at h
  split at h
  · rename_i k' n
    split at h
    · rename_i k hk
      simp only [Option.some.injEq] at h; subst h
      cases hu
      refine ⟨_, .int _ _ (inR_wrap _ _), trivial, fun w' => ?_⟩
      unfold convert
      simp only [Sem.run_bind, run_underlying hds, run_underlying (tinfo_int hd hk), Result.andThen_ok, Conv.intToInt, Sem.run_pure]
    · cases h
  · split at h
    · rename_i hk
      simp only [Option.some.injEq] at h; subst h
      cases hu
      rename_i s hs
      refine ⟨_, .str _ hs, trivial, fun w' => ?_⟩
      unfold convert
      simp only [Sem.run_bind, run_underlying hds, run_underlying (tinfo_str hd hk), Result.andThen_ok, Sem.run_pure]
    · cases h
  · cases h

/-! ### Pieces -/

def lowB : Option AV → Option (Prop × Nat)
  | none => some (True, 0)
  | some (.int _ i) => some (0 ≤ i, i.toNat)
  | _ => none
def highB (d : Nat) : Option AV → Option (Prop × Nat)
  | none => some (True, d)
  | some (.int _ i) => some (0 ≤ i, i.toNat)
  | _ => none

def piece {α : Type} (xs : List α) : Option AV → Option AV → List α
  | none, none => xs
  | none, some (.int _ h) => xs.take h.toNat
  | some (.int _ l), none => xs.drop l.toNat
  | some (.int _ l), some (.int _ h) => (xs.take h.toNat).drop l.toNat
  | _, _ => xs

def sliceQ (P : Program) (ti : TI) (x : AV) (lo hi mx : Option AV) : Option QR :=
  match mx with
  | some _ => none
  | none =>
    match x with
    | .str s => match ti.kind, lowB lo, highB s.length hi with
      | .str, some (p, l), some (q, h) => some ⟨p ∧ q ∧ l ≤ h ∧ h ≤ s.length, True, .str (piece s lo hi)⟩
      | _, _, _ => none
    | .sl T xs => match ti.kind, lowB lo, highB xs.length hi with
      | .sl e, some (p, l), some (q, h) => match tinfo P e with
        | some te => if te.size = T.size then some ⟨p ∧ q ∧ l ≤ h ∧ h ≤ xs.length, True, .sl T (piece xs lo hi)⟩ else none
        | none => none
      | _, _, _ => none
    | .osl β n => match lo with
      | none => match ti.kind, highB n hi with
        | .sl e, some (q, h) => match tinfo P e with
          | some _ => some ⟨q ∧ h ≤ n, True, .osl β h⟩
          | none => none
        | _, _ => none
      | _ => none
    | _ => none

theorem run_sliceBound' (u : Value) (k : IntKind) (i : Int) (hu : u = .int k i) (y : Nat) (code : BoundsCode) (h0 : 0 ≤ i) (h1 : i.toNat ≤ y) (w : World) :
    (Instr.sliceBound u y code).run P w = .ok i.toNat w := by
  subst hu
  have : i ≤ y := by omega
  simp [Instr.sliceBound, asIntOf, h0, this]

theorem piece_eq {α : Type} (xs : List α) {lo hi : Option AV} {p q : Prop} {l h : Nat} (hl : lowB lo = some (p, l)) (hh : highB xs.length hi = some (q, h)) (hle : h ≤ xs.length) : piece xs lo hi = (xs.drop l).take (h - l) := by
  unfold lowB at hl
  unfold highB at hh
  split at hl <;> simp only [Option.some.injEq, Prod.mk.injEq, reduceCtorEq] at hl
  · obtain ⟨_, rfl⟩ := hl
    split at hh <;> simp only [Option.some.injEq, Prod.mk.injEq, reduceCtorEq] at hh
    · obtain ⟨_, rfl⟩ := hh
      simp [piece]
    · obtain ⟨_, rfl⟩ := hh
      simp [piece]
  · obtain ⟨_, rfl⟩ := hl
    split at hh <;> simp only [Option.some.injEq, Prod.mk.injEq, reduceCtorEq] at hh
    · obtain ⟨_, rfl⟩ := hh
      simp only [piece]
      rw [List.take_of_length_le (by simp)]
    · obtain ⟨_, rfl⟩ := hh
      simp only [piece]
      rw [List.drop_take]

def OptC (Φ : Nat → Option Obj) (L : Locs) : Option AV → Option Value → Prop
  | none, none => True
  | some x, some u => CVal Φ L x u
  | _, _ => False

theorem OptC.map (f : Operand → AV) (g : Operand → Value) (x : Option Operand) (h : ∀ y, x = some y → CVal Φ L (f y) (g y)) : OptC Φ L (x.map f) (x.map g) := by
  cases x with
  | none => trivial
  | some y => exact h y rfl

theorem run_sliceBounds (isSlice : Bool) (len cap : Nat) {lo hi : Option AV} {ulo uhi : Option Value} (hlo : OptC Φ L lo ulo) (hhi : OptC Φ L hi uhi) {p q : Prop} {l h : Nat} (hl : lowB lo = some (p, l)) (hh : highB len hi = some (q, h)) (hp : p) (hq : q) (hle : l ≤ h) (hm : h ≤ len) (hc : len ≤ cap) (w : World) :
    (Instr.sliceBounds isSlice len cap ulo uhi none).run P w = .ok (l, h, cap) w := by
  unfold lowB at hl
  unfold highB at hh
  unfold Instr.sliceBounds
  split at hl <;> simp only [Option.some.injEq, Prod.mk.injEq, reduceCtorEq] at hl
  · obtain ⟨_, rfl⟩ := hl
    cases ulo with
    | some u => exact hlo.elim
    | none =>
      split at hh <;> simp only [Option.some.injEq, Prod.mk.injEq, reduceCtorEq] at hh
      · obtain ⟨_, rfl⟩ := hh
        cases uhi with
        | some u => exact hhi.elim
        | none => simp
      · obtain ⟨rfl, rfl⟩ := hh
        cases uhi with
        | none => exact hhi.elim
        | some u =>
          cases hhi
          simp only [Sem.run_bind, Sem.run_pure, Result.andThen_ok, run_sliceBound' _ _ _ rfl cap _ hq (by omega) w]
  · obtain ⟨rfl, rfl⟩ := hl
    cases ulo with
    | none => exact hlo.elim
    | some u =>
      cases hlo
      split at hh <;> simp only [Option.some.injEq, Prod.mk.injEq, reduceCtorEq] at hh
      · obtain ⟨_, rfl⟩ := hh
        cases uhi with
        | some u => exact hhi.elim
        | none => simp only [Sem.run_bind, Sem.run_pure, Result.andThen_ok, run_sliceBound' _ _ _ rfl len _ hp hle w]
      · obtain ⟨rfl, rfl⟩ := hh
        cases uhi with
        | none => exact hhi.elim
        | some u =>
          cases hhi
          simp only [Sem.run_bind, Sem.run_pure, Result.andThen_ok, run_sliceBound' _ _ _ rfl cap _ hq (by omega) w, run_sliceBound' _ _ _ rfl _ _ hp hle w]

theorem RepT.piece {T : Ty} {xs : List T.D} {A : Option Addr} {n cap l h : Nat} (hr : RepT Φ (.sl T) xs [.slice A n cap]) (hle : l ≤ h) (hh : h ≤ xs.length) :
    RepT Φ (.sl T) ((xs.drop l).take (h - l)) [.slice (if cap = l then A else A.map (·.add (l * T.size))) (h - l) (cap - l)] := by
  obtain ⟨A', cap', hv, hl, hc, hx⟩ := hr
  simp only [List.cons.injEq, Value.slice.injEq, and_true] at hv
  obtain ⟨rfl, rfl, rfl⟩ := hv
  have hlen : ((xs.drop l).take (h - l)).length = h - l := by simp; omega
  refine ⟨_, _, by rw [hlen], by rw [hlen]; omega, by omega, ?_⟩
  by_cases h0 : h - l = 0
  · exact .inl (by rw [hlen]; exact h0)
  · rcases hx with hx | ⟨b, o, cs, t, fz, rfl, hb, hx⟩
    · omega
    · right
      have hne : cap ≠ l := by omega
      refine ⟨b, o + l * T.size, cs, t, fz, by simp [hne, add_none], hb, fun i hi => ?_⟩
      rw [hlen] at hi
      obtain ⟨ws, h1, h2⟩ := hx (l + i) (by omega)
      refine ⟨ws, ?_, fun j v hj => ?_⟩
      · have : ((xs.drop l).take (h - l))[i]'(by rw [hlen]; exact hi) = xs[l + i]'(by omega) := by simp
        rw [this]; exact h1
      · have := h2 j v hj
        rwa [show o + l * T.size + (i * T.size + j) = o + ((l + i) * T.size + j) by rw [Nat.add_mul]; omega]

theorem sliceQ_ok {t : TypeId} {ti : TI} (ht : tinfo P t = some ti) {x : AV} {lo hi mx : Option AV} {r : QR} (h : sliceQ P ti x lo hi mx = some r) (hp : r.pre) {u : Value} {ulo uhi umx : Option Value}
    (hu : CVal Φ L x u) (hlo : OptC Φ L lo ulo) (hhi : OptC Φ L hi uhi) (hmx : OptC Φ L mx umx) : ∃ v, CVal Φ L r.av v ∧ r.post ∧ ∀ w', (Instr.sliceAt t u ulo uhi umx).run P w' = .ok v w' := by
  unfold sliceQ at h
  split at h
  · cases h
  · cases umx with
    | some u => exact hmx.elim
    | none =>
    split at h
    · rename_i s
      split at h
      · rename_i p l q h' hk hl hh
        simp only [Option.some.injEq] at h; subst h
        obtain ⟨hp, hq, hle, hm⟩ := hp
        have hun := tinfo_str ht hk
        cases hu
        rename_i hs
        have hpe := piece_eq s hl hh hm
        refine ⟨.string ⟨(piece s lo hi).toArray⟩, .str _ (by rw [hpe]; simp; omega), trivial, fun w' => ?_⟩
        have hb := run_sliceBounds (P := P) false s.length s.length hlo hhi hl hh hp hq hle hm (Nat.le_refl _) w'
        have hsz : (⟨s.toArray⟩ : ByteArray).size = s.length := by simp [ByteArray.size]
        unfold Instr.sliceAt
        simp only [Sem.run_bind, run_underlying hun, Result.andThen_ok, Instr.slice, hsz, hb, Sem.run_pure, Option.isSome_none, Bool.false_eq_true, if_false, hpe]
        have := Lib.extract_eq (⟨s.toArray⟩ : ByteArray) l h'
        simp only at this
        simp [this]
      · cases h
    · rename_i T xs
      split at h
      · rename_i e p l q h' hk hl hh
        split at h
        · rename_i te hte
          split at h
          · rename_i hsz
            simp only [Option.some.injEq] at h; subst h
            obtain ⟨hp, hq, hle, hm⟩ := hp
            obtain ⟨ie, hie, his, _⟩ := tinfo_info hte
            have hun := tinfo_sl ht hk
            have hpe := piece_eq xs hl hh hm
            cases hu with
            | sl _ _ _ hr =>
              obtain ⟨A, cap, hv, hlc, hcm, hx⟩ := id hr
              simp only [List.cons.injEq, and_true] at hv
              subst hv
              refine ⟨.slice (if cap = l then A else A.map (·.add (l * T.size))) (h' - l) (cap - l), .sl _ _ _ (by rw [hpe]; exact hr.piece hle hm), trivial, fun w' => ?_⟩
              have hb := run_sliceBounds (P := P) true xs.length cap hlo hhi hl hh hp hq hle hm hlc w'
              unfold Instr.sliceAt
              simp only [Sem.run_bind, run_underlying hun, Result.andThen_ok, Instr.slice, hb, Sem.run_pure, sizeOf, typeInfo, hie, run_program, his, hsz]
          · cases h
        · cases h
      · cases h
    · rename_i β n
      split at h
      · split at h
        · rename_i e q h' hk hh
          split at h
          · rename_i te hte
            simp only [Option.some.injEq] at h; subst h
            obtain ⟨hq, hm⟩ := hp
            obtain ⟨ie, hie, his, _⟩ := tinfo_info hte
            have hun := tinfo_sl ht hk
            cases hu with
            | osl _ _ g cap hl hn hc =>
              refine ⟨.slice (some ⟨g, 0, none⟩) h' cap, .osl _ _ g cap hl (by omega) hc, trivial, fun w' => ?_⟩
              have hb := run_sliceBounds (P := P) true n cap hlo hhi rfl hh trivial hq (Nat.zero_le _) hm hn w'
              unfold Instr.sliceAt
              simp only [Sem.run_bind, run_underlying hun, Result.andThen_ok, Instr.slice, hb, Sem.run_pure, sizeOf, typeInfo, hie, run_program, Nat.zero_mul, Nat.sub_zero, Option.map_some, add_none, Nat.add_zero, ite_self]
            | oslnil _ _ hl hn =>
              subst hn
              have h0 : h' = 0 := by omega
              subst h0
              refine ⟨.slice none 0 0, .oslnil _ _ hl rfl, trivial, fun w' => ?_⟩
              have hb := run_sliceBounds (P := P) true 0 0 hlo hhi rfl hh trivial hq (Nat.zero_le _) hm (Nat.le_refl _) w'
              unfold Instr.sliceAt
              simp only [Sem.run_bind, run_underlying hun, Result.andThen_ok, Instr.slice, hb, Sem.run_pure, sizeOf, typeInfo, hie, run_program, if_true, Nat.sub_zero]
          · cases h
        · cases h
      · cases h
    · cases h
end
end Go.Proofs.Ythojapklndjidaa
