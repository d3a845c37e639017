/- The quiet operations: their symbolic value, and that the machine yields it. -/
import Derived.Test.YthojapklndjidaaSy4
namespace Go.Proofs.Ythojapklndjidaa
open Go Go.RowKit
set_option linter.unusedVariables false
set_option linter.all false

def nth (T : Ty) (xs : List T.D) (i : Nat) : T.D := xs.getD i T.dflt
def subl (cs : List AV) (off n : Nat) : List AV := (cs.drop off).take n
def pack (agg : Bool) (cs : List AV) : AV := if agg then .agg cs else cs.headD .any

def loadQ (ti : TI) (H : List AObj) : AV → Option QR
  | .ptr γ off => match H[γ]? with
    | some (.cells _ cs) => if off + ti.size ≤ cs.length ∧ (ti.agg = false → ti.size = 1) then some ⟨True, True, pack ti.agg (subl cs off ti.size)⟩ else none
    | _ => none
  | .eptr T xs i off => if off + ti.size ≤ T.size ∧ (ti.agg = false → ti.size = 1) then some ⟨True, True, pack ti.agg (subl (flat T (nth T xs i)) off ti.size)⟩ else none
  | .optr β sz i off => match H[β]? with
    | some (.arr T _ xs) => if sz = T.size ∧ off + ti.size ≤ T.size ∧ (ti.agg = false → ti.size = 1) then some ⟨i < xs.length, True, pack ti.agg (subl (flat T (nth T xs i)) off ti.size)⟩ else none
    | some (.frz T xs) => if sz = T.size ∧ off + ti.size ≤ T.size ∧ (ti.agg = false → ti.size = 1) then some ⟨i < xs.length, True, pack ti.agg (subl (flat T (nth T xs i)) off ti.size)⟩ else none
    | some (.ope d _ _ i' ws) => if sz = d.ty.size ∧ i = i' ∧ off + ti.size ≤ ws.length ∧ (ti.agg = false → ti.size = 1) then some ⟨True, True, pack ti.agg (subl ws off ti.size)⟩ else none
    | some (.deep d _ xs) => if sz = d.ty.size ∧ off + ti.size ≤ d.ty.size ∧ (ti.agg = false → ti.size = 1) then some ⟨i < xs.length, True, pack ti.agg (subl (flatD d (nth d.ty xs i)) off ti.size)⟩ else none
    | _ => none
  | _ => none

theorem pack_ok {Φ : Nat → Option Obj} {L : Locs} {cs : List AV} {vs : List Value} (h : CVals Φ L cs vs) (agg : Bool) (h1 : agg = false → cs.length = 1) : CVal Φ L (pack agg cs) (packV agg vs) := by
  cases agg with
  | true => exact packV_ok h
  | false =>
    have := h1 rfl
    match cs, this with
    | [c], _ =>
      obtain ⟨v, ws, rfl, _, hc, _⟩ := h.inv_cons
      exact hc

section
variable {P : Program} {C : Ctx} {Φ : Nat → Option Obj} {L : Locs} {H : List AObj} {w : World}

theorem load_cells {t : TypeId} {ti : TI} (ht : tinfo P t = some ti) {cs : List AV} {vs : List Value} {b o off : Nat} (hc : CVals Φ L cs vs) (hm : ∀ (j : Nat) v, vs[j]? = some v → w.cell? ⟨b, o + j, none⟩ = some v)
    (h1 : off + ti.size ≤ cs.length) (h2 : ti.agg = false → ti.size = 1) {w' : World} (hb : w'.heap[b]? = w.heap[b]?) :
    (Instr.loadAt t (.pointer (some ⟨b, o + off, none⟩))).run P w' = .ok (packV ti.agg ((vs.drop off).take ti.size)) w' ∧ CVal Φ L (pack ti.agg (subl cs off ti.size)) (packV ti.agg ((vs.drop off).take ti.size)) := by
  obtain ⟨i, d, hi, hd, rfl⟩ := tinfo_spec ht
  have hlen : ((vs.drop off).take i.size).length = i.size := by
    simp only [List.length_take, List.length_drop, hc.1]; simp only at h1; omega
  refine ⟨run_loadAt hi hd b (o + off) ((vs.drop off).take i.size) hlen (fun j v hj => ?_) h2, pack_ok (hc.sub off i.size) (aggD d) fun h => ?_⟩
  · rw [List.getElem?_take] at hj
    split at hj
    · rw [List.getElem?_drop] at hj
      have := hm _ _ hj
      rw [← Nat.add_assoc] at this
      rw [World.cell?_of_block (w := w) (a := ⟨b, o + off + j, none⟩) hb]; exact this
    · cases hj
  · have := h2 h
    have hs : subl cs off i.size = (cs.drop off).take i.size := rfl
    simp only at h1 this
    simp only [List.length_take, List.length_drop]; omega

theorem loadQ_ok {t : TypeId} {ti : TI} (ht : tinfo P t = some ti) {x : AV} {r : QR} (h : loadQ ti H x = some r) (hp : r.pre) (hI : Inv C Φ L H w) {u : Value} (hu : CVal Φ L x u) :
    ∃ v, CVal Φ L r.av v ∧ r.post ∧ ∀ w', Agr Φ L H w w' → (Instr.loadAt t u).run P w' = .ok v w' := by
  unfold loadQ at h
  split at h
  · -- a variable of the call's own
    rename_i γ off
    split at h
    · rename_i tt cs ho
      split at h
      · rename_i hs
        simp only [Option.some.injEq] at h; subst h
        obtain ⟨g, cap, vs, hl, hg, hc⟩ := hI.var ho
        cases hu with
        | ptr _ _ g' cap' hl' =>
          rw [hl] at hl'; simp only [Option.some.injEq, Prod.mk.injEq] at hl'; obtain ⟨rfl, rfl⟩ := hl'
          have hm : ∀ (j : Nat) v, vs.toList[j]? = some v → w.cell? ⟨g, 0 + j, none⟩ = some v := fun j v hj => by
            rw [Nat.zero_add, cell_of_row w g j vs tt (0, 0) hg]; simpa using hj
          refine ⟨_, (load_cells (w' := w) ht hc hm hs.1 hs.2 rfl).2, trivial, fun w' hb => ?_⟩
          have := (load_cells ht hc hm hs.1 hs.2 (hb.2 γ _ g cap ho rfl hl)).1
          rwa [Nat.zero_add] at this
      · cases h
    · cases h
  · -- an element of frozen memory
    rename_i T xs i off
    split at h
    · rename_i hs
      simp only [Option.some.injEq] at h; subst h
      cases hu with
      | eptr _ _ _ _ b o cap hr hi =>
        obtain ⟨ws, hw, hm⟩ := hI.elem hr i hi
        have hn : nth T xs i = xs[i] := by simp [nth, List.getD, List.getElem?_eq_getElem hi]
        have hc : CVals Φ L (flat T (nth T xs i)) ws := by rw [hn]; exact CVals.of_rep hw
        have hl := flat_length T (nth T xs i)
        have hm' : ∀ (j : Nat) v, ws[j]? = some v → w.cell? ⟨b, (o + i * T.size) + j, none⟩ = some v := fun j v hj => by
          have := hm j v hj; rwa [← Nat.add_assoc] at this
        refine ⟨_, (load_cells (w' := w) ht hc hm' (by rw [hl]; exact hs.1) hs.2 rfl).2, trivial, fun w' hb => ?_⟩
        have := (load_cells ht hc hm' (by rw [hl]; exact hs.1) hs.2 (hb.rep hr (by omega))).1
        rwa [Nat.add_assoc] at this
    · cases h
  · -- an element of an array of the call's own
    rename_i β sz i off
    split at h
    · rename_i T e xs ho
      split at h
      · rename_i hs
        simp only [Option.some.injEq] at h; subst h
        have hi : i < xs.length := hp
        cases hu with
        | optr _ _ _ _ g cap hl =>
          obtain ⟨ws, hw, hm⟩ := hI.row_elem ho hl i hi
          have hn : nth T xs i = xs[i] := by simp [nth, List.getD, List.getElem?_eq_getElem hi]
          have hc : CVals Φ L (flat T (nth T xs i)) ws := by rw [hn]; exact CVals.of_rep hw
          have hlen := flat_length T (nth T xs i)
          have hsz : sz = T.size := hs.1
          subst hsz
          refine ⟨_, (load_cells (w' := w) ht hc hm (by rw [hlen]; exact hs.2.1) hs.2.2 rfl).2, trivial, fun w' hb => ?_⟩
          exact (load_cells ht hc hm (by rw [hlen]; exact hs.2.1) hs.2.2 (hb.2 β _ g cap ho rfl hl)).1
      · cases h
    · rename_i T xs ho
      split at h
      · rename_i hs
        simp only [Option.some.injEq] at h; subst h
        have hi : i < xs.length := hp
        cases hu with
        | optr _ _ _ _ g cap hl =>
          obtain ⟨l, hl', hr⟩ := hI.obj β _ ho
          rw [hl] at hl'; simp only [Option.some.injEq] at hl'; subst hl'
          obtain ⟨ws, hw, hm⟩ := hI.elem hr i hi
          have hn : nth T xs i = xs[i] := by simp [nth, List.getD, List.getElem?_eq_getElem hi]
          have hc : CVals Φ L (flat T (nth T xs i)) ws := by rw [hn]; exact CVals.of_rep hw
          have hlen := flat_length T (nth T xs i)
          have hsz : sz = T.size := hs.1
          subst hsz
          have hm' : ∀ (j : Nat) v, ws[j]? = some v → w.cell? ⟨g, i * T.size + j, none⟩ = some v := fun j v hj => by
            have := hm j v hj; rwa [Nat.zero_add] at this
          refine ⟨_, (load_cells (w' := w) ht hc hm' (by rw [hlen]; exact hs.2.1) hs.2.2 rfl).2, trivial, fun w' hb => ?_⟩
          exact (load_cells ht hc hm' (by rw [hlen]; exact hs.2.1) hs.2.2 (hb.rep hr (by omega))).1
      · cases h
    · rename_i d e xs i' ws ho
      split at h
      · rename_i hs
        simp only [Option.some.injEq] at h; subst h
        obtain ⟨rfl, rfl, hs3, hs4⟩ := hs
        cases hu with
        | optr _ _ _ _ g cap hl =>
          obtain ⟨F, hF⟩ := hI.deep
          obtain ⟨l, hl', c1, c2, c3, F1, F2, hi, hown, hr1, hc, hwl, hr3, _⟩ := (hF β _ ho rfl).is
          rw [hl] at hl'; simp only [Option.some.injEq] at hl'; subst hl'
          have hc1 := hr1.length fun x v F h => RepO.length h
          rw [List.length_take, Nat.min_eq_left (by omega)] at hc1
          have hm : ∀ (j : Nat) v, c2[j]? = some v → w.cell? ⟨g, i * d.ty.size + j, none⟩ = some v := fun j v hj => by
            refine ownsRow_cell hown ?_
            have hjl := (List.getElem?_eq_some_iff.1 hj).1
            rw [List.append_assoc, List.getElem?_append_right (by omega), hc1, List.getElem?_append_left (by omega)]
            rw [show i * d.ty.size + j - i * d.ty.size = j by omega]; exact hj
          refine ⟨_, (load_cells (w' := w) ht hc hm hs3 hs4 rfl).2, trivial, fun w' hb => ?_⟩
          exact (load_cells ht hc hm hs3 hs4 (hb.2 β _ g cap ho rfl hl)).1
      · cases h
    · rename_i d e xs ho
      split at h
      · rename_i hs
        simp only [Option.some.injEq] at h; subst h
        obtain ⟨rfl, hs3, hs4⟩ := hs
        have hi : i < xs.length := hp
        cases hu with
        | optr _ _ _ _ g cap hl =>
          obtain ⟨F, hF⟩ := hI.deep
          obtain ⟨l, hl', cells, hown, hr⟩ := (hF β _ ho rfl).is
          rw [hl] at hl'; simp only [Option.some.injEq] at hl'; subst hl'
          obtain ⟨c1, c2, c3, F1, F2, F3, rfl, _, hr1, hr2, _⟩ := hr.split i hi
          have hc1 := hr1.length fun x v F h => RepO.length h
          rw [List.length_take, Nat.min_eq_left (by omega)] at hc1
          have hn : nth d.ty xs i = xs[i] := by simp [nth, List.getD, List.getElem?_eq_getElem hi]
          have hc : CVals Φ L (flatD d (nth d.ty xs i)) c2 := by rw [hn]; exact hr2.words
          have hlen := flatD_length d (nth d.ty xs i)
          have hm : ∀ (j : Nat) v, c2[j]? = some v → w.cell? ⟨g, i * d.ty.size + j, none⟩ = some v := fun j v hj => by
            refine ownsRow_cell hown ?_
            have hjl := (List.getElem?_eq_some_iff.1 hj).1
            rw [List.append_assoc, List.getElem?_append_right (by omega), hc1, List.getElem?_append_left (by omega)]
            rw [show i * d.ty.size + j - i * d.ty.size = j by omega]; exact hj
          refine ⟨_, (load_cells (w' := w) ht hc hm (by rw [hlen]; exact hs3) hs4 rfl).2, trivial, fun w' hb => ?_⟩
          exact (load_cells ht hc hm (by rw [hlen]; exact hs3) hs4 (hb.2 β _ g cap ho rfl hl)).1
      · cases h
    · cases h
  · cases h

/-! ### Addresses -/

def faddrQ (ti : TI) (j : Nat) : AV → Option QR
  | .ptr γ off => match ti.kind with
    | .st fs => match fs[j]? with
      | some (o, s, _) => if s = 0 then none else some ⟨True, True, .ptr γ (off + o)⟩
      | none => none
    | _ => none
  | .eptr T xs i off => match ti.kind with
    | .st fs => match fs[j]? with
      | some (o, s, _) => if s = 0 then none else some ⟨True, True, .eptr T xs i (off + o)⟩
      | none => none
    | _ => none
  | .optr β sz i off => match ti.kind with
    | .st fs => match fs[j]? with
      | some (o, s, _) => if s = 0 then none else some ⟨True, True, .optr β sz i (off + o)⟩
      | none => none
    | _ => none
  | _ => none

theorem run_fieldAt {t : TypeId} {ti : TI} (ht : tinfo P t = some ti) {fs : List (Nat × Nat × TypeId)} (hk : ti.kind = .st fs) {j o s ft : Nat} (hj : fs[j]? = some (o, s, ft)) (hs : s ≠ 0) (b off : Nat) (w : World) :
    (Instr.fieldAt t (.pointer (some ⟨b, off, none⟩)) j).run P w = .ok (.pointer (some ⟨b, off + o, none⟩)) w := by
  obtain ⟨i, d, hi, hd, rfl⟩ := tinfo_spec ht
  obtain ⟨f, rfl, rfl⟩ := kind_st hk
  rw [List.getElem?_map] at hj
  cases hf : f.toList[j]? with
  | none => rw [hf] at hj; simp at hj
  | some fl =>
    rw [hf] at hj
    simp only [Option.map_some, Option.some.injEq, Prod.mk.injEq] at hj
    obtain ⟨rfl, hsz, _⟩ := hj
    have hf' : f[j]? = some fl := by simpa using hf
    cases hfi : P.info? fl.type with
    | none => rw [hfi] at hsz; simp at hsz; exact absurd hsz.symm hs
    | some fi =>
      rw [hfi] at hsz
      simp at hsz
      have hne : fi.size ≠ 0 := by rw [hsz]; exact hs
      simp [Instr.fieldAt, run_underlying hd, hf', Instr.sureAddr, fieldPlace, sizeOf, typeInfo, hfi, hne, add_none]

theorem faddrQ_ok {t : TypeId} {ti : TI} (ht : tinfo P t = some ti) {j : Nat} {x : AV} {r : QR} (h : faddrQ ti j x = some r) {u : Value} (hu : CVal Φ L x u) :
    ∃ v, CVal Φ L r.av v ∧ r.post ∧ ∀ w', (Instr.fieldAt t u j).run P w' = .ok v w' := by
  unfold faddrQ at h
  split at h
  · rename_i γ off
    split at h
    · rename_i fs hk
      split at h
      · rename_i o s ft hj
        split at h
        · cases h
        · rename_i hs
          simp only [Option.some.injEq] at h; subst h
          cases hu with
          | ptr _ _ g cap hl => exact ⟨_, .ptr _ _ g cap hl, trivial, fun w' => run_fieldAt ht hk hj hs g off w'⟩
      · cases h
    · cases h
  · rename_i T xs i off
    split at h
    · rename_i fs hk
      split at h
      · rename_i o s ft hj
        split at h
        · cases h
        · rename_i hs
          simp only [Option.some.injEq] at h; subst h
          cases hu with
          | eptr _ _ _ _ b o' cap hr hi =>
            refine ⟨_, .eptr T xs i _ b o' cap hr hi, trivial, fun w' => ?_⟩
            have := run_fieldAt ht hk hj hs b (o' + (i * T.size + off)) w'
            rwa [show o' + (i * T.size + off) + o = o' + (i * T.size + (off + o)) by omega] at this
      · cases h
    · cases h
  · rename_i β sz i off
    split at h
    · rename_i fs hk
      split at h
      · rename_i o s ft hj
        split at h
        · cases h
        · rename_i hs
          simp only [Option.some.injEq] at h; subst h
          cases hu with
          | optr _ _ _ _ g cap hl =>
            refine ⟨_, .optr β sz i _ g cap hl, trivial, fun w' => ?_⟩
            have := run_fieldAt ht hk hj hs g (i * sz + off) w'
            rwa [show i * sz + off + o = i * sz + (off + o) by omega] at this
      · cases h
    · cases h
  · cases h

/-- The address of an element. -/
def iaddrQ (P : Program) (ti : TI) : AV → AV → Option QR
  | .sl T xs, .int k i => match ti.kind with
    | .sl e => match tinfo P e with
      | some te => if te.size = T.size then some ⟨0 ≤ i ∧ i < xs.length, True, .eptr T xs i.toNat 0⟩ else none
      | none => none
    | _ => none
  | .osl β n, .int k i => match ti.kind with
    | .sl e => match tinfo P e with
      | some te => some ⟨0 ≤ i ∧ i < n, True, .optr β te.size i.toNat 0⟩
      | none => none
    | _ => none
  | _, _ => none

theorem run_indexAt {t e : TypeId} (hu : P.underlying t = some (.slice e)) {ie : TypeInfo} (hi : P.info? e = some ie) (b o n cap : Nat) (k : IntKind) (i : Int) (h0 : 0 ≤ i) (h1 : i < n) (w : World) :
    (Instr.indexAt t (.slice (some ⟨b, o, none⟩) n cap) (.int k i)).run P w = .ok (.pointer (some ⟨b, o + i.toNat * ie.size, none⟩)) w := by
  simp [Instr.indexAt, asIntOf, run_underlying hu, h0, h1, sizeOf, typeInfo, hi, add_none]

theorem iaddrQ_ok {t : TypeId} {ti : TI} (ht : tinfo P t = some ti) {x y : AV} {r : QR} (h : iaddrQ P ti x y = some r) (hp : r.pre) {u v : Value} (hu : CVal Φ L x u) (hv : CVal Φ L y v) :
    ∃ z, CVal Φ L r.av z ∧ r.post ∧ ∀ w', (Instr.indexAt t u v).run P w' = .ok z w' := by
  unfold iaddrQ at h
  split at h
  · rename_i T xs k i
    split at h
    · rename_i e hk
      split at h
      · rename_i te hte
        split at h
        · rename_i hs
          simp only [Option.some.injEq] at h; subst h
          obtain ⟨h0, h1⟩ : 0 ≤ i ∧ i < xs.length := hp
          obtain ⟨ie, hie, hsz, _, _⟩ := tinfo_info hte
          cases hv
          cases hu with
          | sl _ _ _ hr =>
            obtain ⟨A, cap, hv, hl, hc, hx⟩ := id hr
            simp only [List.cons.injEq, and_true] at hv
            subst hv
            rcases hx with hx | ⟨b, o, cs, t', fz, rfl, hb, hx⟩
            · omega
            · refine ⟨_, .eptr T xs i.toNat 0 b o cap hr (by omega), trivial, fun w' => ?_⟩
              rw [run_indexAt (tinfo_sl ht hk) hie b o xs.length cap k i h0 h1 w', hsz, hs, Nat.add_zero]
        · cases h
      · cases h
    · cases h
  · rename_i β n k i
    split at h
    · rename_i e hk
      split at h
      · rename_i te hte
        simp only [Option.some.injEq] at h; subst h
        obtain ⟨h0, h1⟩ : 0 ≤ i ∧ i < n := hp
        obtain ⟨ie, hie, hsz, _, _⟩ := tinfo_info hte
        cases hv
        cases hu with
        | osl _ _ g cap hl hn hc =>
          refine ⟨_, .optr β te.size i.toNat 0 g cap hl, trivial, fun w' => ?_⟩
          rw [run_indexAt (tinfo_sl ht hk) hie g 0 n cap k i h0 h1 w', hsz, Nat.zero_add, Nat.add_zero]
        | oslnil _ _ hl hn => omega
      · cases h
    · cases h
  · cases h

/-- A byte of a string. -/
def indexQ (ti : TI) : AV → AV → Option QR
  | .str s, .int k i => match ti.kind with
    | .str => some ⟨0 ≤ i ∧ i < s.length, True, .int .u8 ((nth .byte s i.toNat).toNat : Int)⟩
    | _ => none
  | _, _ => none

theorem byte_inR (b : UInt8) : inR .u8 (b.toNat : Int) := by have := b.toNat_lt; simp [inR]; omega

theorem indexQ_ok {t : TypeId} {ti : TI} (ht : tinfo P t = some ti) {x y : AV} {r : QR} (h : indexQ ti x y = some r) (hp : r.pre) {u v : Value} (hu : CVal Φ L x u) (hv : CVal Φ L y v) :
    ∃ z, CVal Φ L r.av z ∧ r.post ∧ ∀ w', (Instr.index t u v).run P w' = .ok z w' := by
  unfold indexQ at h
  split at h
  · rename_i s k i
    split at h
    · rename_i hk
      simp only [Option.some.injEq] at h; subst h
      obtain ⟨h0, h1⟩ : 0 ≤ i ∧ i < s.length := hp
      cases hv; cases hu
      have hlt : i.toNat < s.length := by omega
      refine ⟨_, .int _ _ (byte_inR _), trivial, fun w' => ?_⟩
      have hg : (⟨s.toArray⟩ : ByteArray)[i.toNat]? = some s[i.toNat] := by
        rw [getElem?_pos _ _ (by simpa [ByteArray.size] using hlt)]
        rfl
      simp [Instr.index, asIntOf, run_underlying (tinfo_str ht hk), h0, hg, nth, List.getD, List.getElem?_eq_getElem hlt]
    · cases h
  · cases h
end
end Go.Proofs.Ythojapklndjidaa
