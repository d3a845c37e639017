/- New blocks, stores. -/
import Derived.Test.YthojapklndjidaaSyD
namespace Go.Proofs.Ythojapklndjidaa
open Go Go.RowKit
set_option linter.unusedVariables false
set_option linter.all false

section
variable {P : Program} {C : Ctx} {Φ : Nat → Option Obj} {L : Locs} {H : List AObj} {w : World}

theorem get_snoc {α : Type} {xs : List α} {x y : α} {i : Nat} (h : (xs ++ [x])[i]? = some y) : (i < xs.length ∧ xs[i]? = some y) ∨ (i = xs.length ∧ y = x) := by
  by_cases hi : i < xs.length
  · rw [List.getElem?_append_left hi] at h; exact .inl ⟨hi, h⟩
  · rw [List.getElem?_append_right (by omega)] at h
    have : i - xs.length = 0 := by
      have := (List.getElem?_eq_some_iff.1 h).1
      simp at this; omega
    rw [this] at h
    simp at h
    exact .inr ⟨by omega, h.symm⟩

theorem Locs.snoc {L : Locs} (x : Option (Nat × Nat)) : ∀ (i : Nat) y, L[i]? = some y → (L ++ [x])[i]? = some y := fun i y h => by
  rw [List.getElem?_append_left (List.getElem?_eq_some_iff.1 h).1]; exact h

/-- A new name, for a new block or for none. -/
theorem Inv0.new (h : Inv0 C Φ L H w) {l : Option (Nat × Nat)} {o : AObj} (ho : ObjOk Φ (L ++ [l]) w l o)
    (hl : ∀ g cap, l = some (g, cap) → o.live = true → Φ g = none ∧ (C.w0.heap.size ≤ g ∨ g ∈ C.W) ∧ ∀ (γ : Nat) o' cap', H[γ]? = some o' → o'.live = true → L[γ]? ≠ some (some (g, cap'))) :
    Inv0 C Φ (L ++ [l]) (H ++ [o]) w where
  len := by simp [h.len]
  frz := h.frz
  base := h.base
  glob := h.glob
  fresh := h.fresh
  os := h.os
  tape := h.tape
  output := h.output
  size := h.size
  keep := h.keep
  pre i x hx := Locs.snoc l i x (h.pre i x hx)
  obj γ o' hγ := by
    rcases get_snoc hγ with ⟨hlt, hγ⟩ | ⟨rfl, rfl⟩
    · obtain ⟨l', hl', hk⟩ := h.obj γ o' hγ
      exact ⟨l', Locs.snoc l γ _ hl', hk.more (More.refl _) (Locs.snoc l)⟩
    · exact ⟨l, by rw [← h.len]; simp, ho⟩
  own γ o' g cap hγ hlive hlg := by
    rcases get_snoc hγ with ⟨hlt, hγ⟩ | ⟨rfl, rfl⟩
    · rw [List.getElem?_append_left (by rw [h.len]; exact hlt)] at hlg
      exact h.own γ o' g cap hγ hlive hlg
    · rw [← h.len] at hlg; simp at hlg
      exact ⟨(hl g cap hlg hlive).1, (hl g cap hlg hlive).2.1⟩
  inj γ δ o1 o2 g cap cap' hne hγ hl1 hδ hl2 e1 e2 := by
    rcases get_snoc hγ with ⟨hlt, hγ'⟩ | ⟨hγe, hoe⟩
    · rw [List.getElem?_append_left (by rw [h.len]; exact hlt)] at e1
      rcases get_snoc hδ with ⟨hlt', hδ'⟩ | ⟨hδe, hoe'⟩
      · rw [List.getElem?_append_left (by rw [h.len]; exact hlt')] at e2
        exact h.inj γ δ o1 o2 g cap cap' hne hγ' hl1 hδ' hl2 e1 e2
      · subst hδe; subst hoe'
        rw [← h.len] at e2; simp at e2
        exact (hl g cap' e2 hl2).2.2 γ o1 cap hγ' hl1 e1
    · subst hγe; subst hoe
      rw [← h.len] at e1; simp at e1
      rcases get_snoc hδ with ⟨hlt', hδ'⟩ | ⟨hδe, hoe'⟩
      · rw [List.getElem?_append_left (by rw [h.len]; exact hlt')] at e2
        exact (hl g cap e1 hl1).2.2 δ o2 cap' hδ' hl2 e2
      · exact absurd hδe.symm hne

/-- A block that is made anew. -/
theorem Inv0.alloc_new (h : Inv0 C Φ L H w) {w' : World} (hb : Below w.heap.size w w') (cap : Nat) {o : AObj} (ho : ∀ L', L' = L ++ [some (w.heap.size, cap)] → ObjOk Φ L' w' (some (w.heap.size, cap)) o) :
    Inv0 C Φ (L ++ [some (w.heap.size, cap)]) (H ++ [o]) w' := by
  refine (h.below hb).new (ho _ rfl) fun g cap' he hlive => ?_
  simp only [Option.some.injEq, Prod.mk.injEq] at he
  obtain ⟨rfl, rfl⟩ := he
  refine ⟨?_, .inl h.size, fun γ o' cap'' hγ hl' e => ?_⟩
  · cases hΦ : Φ w.heap.size with
    | none => rfl
    | some x => have := lt_of_block (h.frz _ _ hΦ); omega
  · have := h.lt hγ hl' e; omega

theorem Inv.alloc_new (h : Inv C Φ L H w) {w' : World} (hb : Below w.heap.size w w') (cap : Nat) {o : AObj} (hfl : o.flat = true) (ho : ∀ L', L' = L ++ [some (w.heap.size, cap)] → ObjOk Φ L' w' (some (w.heap.size, cap)) o) :
    Inv C Φ (L ++ [some (w.heap.size, cap)]) (H ++ [o]) w' :=
  ⟨h.toInv0.alloc_new hb cap ho, Deep.new h hb hfl fun g cap' he _ => by simp only [Option.some.injEq, Prod.mk.injEq] at he; omega⟩

/-- What a writing operation leaves. -/
structure ER where
  pre : Prop
  av : AV
  heap : List AObj

def EPost (C : Ctx) (Φ : Nat → Option Obj) (L : Locs) (r : ER) (v : Value) (w' : World) : Prop :=
  ∃ Φ' L', More Φ Φ' ∧ (∀ (i : Nat) x, L[i]? = some x → L'[i]? = some x) ∧ Inv C Φ' L' r.heap w' ∧ CVal Φ' L' r.av v

theorem boxed (h : Inv C Φ L H w) (t : TypeId) {cs : List AV} {vs : Array Value} (hc : CVals Φ L cs vs.toList) :
    EPost C Φ L ⟨True, .ptr H.length 0, H ++ [.cells t cs]⟩ (.pointer (some ⟨w.heap.size, 0, none⟩)) (w.alloc (.cells vs t)) := by
  have hb : Below w.heap.size w (w.alloc (.cells vs t)) := (Below.refl _ _).alloc (Nat.le_refl _) _
  refine ⟨Φ, L ++ [some (w.heap.size, 0)], More.refl _, Locs.snoc _, h.alloc_new hb 0 rfl fun L' hL' => ?_, ?_⟩
  · refine ⟨w.heap.size, 0, vs, rfl, heap_alloc_new w _, hc.1, fun i c v h1 h2 => ⟨(hc.2 i c v h1 h2).1, (hc.2 i c v h1 h2).2.mono (More.refl _) ?_⟩⟩
    rw [hL']; exact Locs.snoc _
  · exact .ptr _ _ _ 0 (by rw [← h.len]; simp)

def allocE (H : List AObj) (t : TypeId) (ti : TI) : Option ER :=
  match ti.ok, ti.zero with
  | true, some z => some ⟨True, .ptr H.length 0, H ++ [.cells t z]⟩
  | _, _ => none

theorem allocE_ok {t : TypeId} {ti : TI} (ht : tinfo P t = some ti) {r : ER} (h : allocE H t ti = some r) (hI : Inv C Φ L H w) :
    ∃ v w', (Instr.alloc t true (.tuple #[])).run P w = .ok v w' ∧ EPost C Φ L r v w' := by
  unfold allocE at h
  split at h
  · rename_i z hok hz
    simp only [Option.some.injEq] at h; subst h
    obtain ⟨i, zv, hi, hzv, _, _, hze, hzc, _, _⟩ := zero_cells (Φ := Φ) (L := L) ht hok
    rw [hz] at hze; simp only [Option.some.injEq] at hze; subst hze
    refine ⟨_, _, ?_, boxed hI t hzc⟩
    simp [Instr.alloc, zeroValue, typeInfo, hi, hzv, newVar, newRow]
  · cases h

def boxE (H : List AObj) (t : TypeId) (x : AV) : Option ER :=
  if isCell x then some ⟨True, .ptr H.length 0, H ++ [.cells t (cellsA x)]⟩ else none

theorem boxE_ok {t : TypeId} {x : AV} {r : ER} (h : boxE H t x = some r) (hI : Inv C Φ L H w) {u : Value} (hu : CVal Φ L x u) :
    ∃ v w', (Instr.box t u).run P w = .ok v w' ∧ EPost C Φ L r v w' := by
  unfold boxE at h
  split at h
  · rename_i hc
    simp only [Option.some.injEq] at h; subst h
    refine ⟨_, _, ?_, boxed hI t (cellsA_ok hu hc)⟩
    simp [Instr.box, newVar, newRow]
  · cases h

/-! ### Stores -/

/-- The world with the cells of a row turned. -/
theorem setRow_below_but (w : World) (g : Nat) (cs : Array Value) (k : Nat) (hk : k ≠ g) : (w.setRow g cs).heap[k]? = w.heap[k]? := setRow_other w g k cs hk

/-- The object of one name turned, in its own block. -/
theorem Inv0.turn (h : Inv0 C Φ L H w) {γ : Nat} {o o' : AObj} {g cap : Nat} (ho : H[γ]? = some o) (hlive : o.live = true) (hl : L[γ]? = some (some (g, cap))) {w' : World}
    (hw : ∀ k, k ≠ g → w'.heap[k]? = w.heap[k]?) (hs : w'.heap.size = w.heap.size) (hos : w'.os = w.os) (ht : w'.tape = w.tape) (hout : w'.output = w.output) (hk : ObjOk Φ L w' (some (g, cap)) o') :
    Inv0 C Φ L (H.set γ o') w' := by
  have hlt : γ < H.length := (List.getElem?_eq_some_iff.1 ho).1
  obtain ⟨hΦ, hB⟩ := h.own γ o g cap ho hlive hl
  constructor
  · simp [h.len]
  · intro b x hb
    rw [hw b (fun e => by subst e; rw [hΦ] at hb; cases hb)]; exact h.frz b x hb
  · exact h.base
  · exact h.glob
  · exact h.fresh
  · exact hos.trans h.os
  · exact ht.trans h.tape
  · exact hout.trans h.output
  · rw [hs]; exact h.size
  · intro b hlt hW
    rw [hw b (fun e => by subst e; rcases hB with hB | hB; omega; exact hW hB)]; exact h.keep b hlt hW
  · intro δ x hδ
    by_cases he : δ = γ
    · subst he
      rw [List.getElem?_set_self hlt] at hδ
      simp only [Option.some.injEq] at hδ; subst hδ
      exact ⟨_, hl, hk⟩
    · rw [List.getElem?_set_ne (Ne.symm he)] at hδ
      obtain ⟨l, hl', hk'⟩ := h.obj δ x hδ
      refine ⟨l, hl', hk'.keep fun g' cap' hlv hlg hlt' => hw g' fun e => ?_⟩
      subst e
      subst hlg
      exact h.inj δ γ x o g' cap' cap he hδ hlv ho hlive hl' hl
  · intro δ x g' cap' hδ hlv hlg
    by_cases he : δ = γ
    · subst he; exact h.own δ o g' cap' ho hlive hlg
    · rw [List.getElem?_set_ne (Ne.symm he)] at hδ
      exact h.own δ x g' cap' hδ hlv hlg
  · intro δ ε x y g' c1 c2 hne hδ hlx hε hly e1 e2
    have back : ∀ (ζ : Nat) z, (H.set γ o')[ζ]? = some z → z.live = true → ∃ z', H[ζ]? = some z' ∧ z'.live = true := fun ζ z hz hlz => by
      by_cases he : ζ = γ
      · subst he; exact ⟨o, ho, hlive⟩
      · rw [List.getElem?_set_ne (Ne.symm he)] at hz; exact ⟨z, hz, hlz⟩
    obtain ⟨x', hx', hlx'⟩ := back δ x hδ hlx
    obtain ⟨y', hy', hly'⟩ := back ε y hε hly
    exact h.inj δ ε x' y' g' c1 c2 hne hx' hlx' hy' hly' e1 e2
  · exact h.pre

theorem Inv.turn (h : Inv C Φ L H w) {γ : Nat} {o o' : AObj} {g cap : Nat} (ho : H[γ]? = some o) (hlive : o.live = true) (hf : o.flat = true) (hf' : o'.flat = true) (hl : L[γ]? = some (some (g, cap))) {w' : World}
    (hw : ∀ k, k ≠ g → w'.heap[k]? = w.heap[k]?) (hs : w'.heap.size = w.heap.size) (hos : w'.os = w.os) (ht : w'.tape = w.tape) (hout : w'.output = w.output) (hk : ObjOk Φ L w' (some (g, cap)) o') :
    Inv C Φ L (H.set γ o') w' :=
  ⟨h.toInv0.turn ho hlive hl hw hs hos ht hout hk, Deep.upd h ho hlive hf hf' (fun b _ hb => hw b fun e => by subst e; exact hb cap hl) (by omega) (More.refl _) fun _ _ h _ => h⟩

theorem CVals.splice {cs ds : List AV} {vs ws : List Value} (h : CVals Φ L cs vs) (k : CVals Φ L ds ws) (off : Nat) (hle : off + ds.length ≤ cs.length) : CVals Φ L (splice cs off ds) (vs.take off ++ ws ++ vs.drop (off + ws.length)) := by
  have e1 : CVals Φ L (cs.take off) (vs.take off) := by have := h.sub 0 off; simpa using this
  have e2 : CVals Φ L (cs.drop (off + ds.length)) (vs.drop (off + ds.length)) := by
    have := h.sub (off + ds.length) cs.length
    have h1 : (cs.drop (off + ds.length)).take cs.length = cs.drop (off + ds.length) := List.take_of_length_le (by rw [List.length_drop]; omega)
    have h2 : (vs.drop (off + ds.length)).take cs.length = vs.drop (off + ds.length) := List.take_of_length_le (by rw [List.length_drop, h.1]; omega)
    rwa [h1, h2] at this
  rw [k.1]
  exact (e1.append k).append e2

def storeE (H : List AObj) (ti : TI) (x v : AV) : Option ER :=
  if isCell v then
    match x with
    | .ptr γ off => match H[γ]? with
      | some (.cells t cs) => if (cellsA v).length = ti.size ∧ off + ti.size ≤ cs.length then some ⟨True, .any, H.set γ (.cells t (splice cs off (cellsA v)))⟩ else none
      | _ => none
    | .optr β sz i off => match H[β]? with
      | some (.ope d e xs i' ws) => if sz = d.ty.size ∧ i = i' ∧ (cellsA v).length = ti.size ∧ off + ti.size ≤ ws.length then some ⟨True, .any, H.set β (.ope d e xs i' (splice ws off (cellsA v)))⟩ else none
      | some (.deep d e xs) => if sz = d.ty.size ∧ off = 0 ∧ (cellsA v).length = ti.size ∧ ti.size = d.ty.size then
          match absorb H d (cellsA v) with
          | some (p, y, [], H') => if isDeep H'[β]? = true then some ⟨p ∧ i < xs.length, .any, H'.set β (.deep d e (xs.set i y))⟩ else none
          | _ => none
        else none
      | _ => match solid H (cellsA v) with
        | some (p, ws, H') => match H'[β]? with
          | some (.arr T e xs) => if sz = T.size ∧ (cellsA v).length = ti.size ∧ off + ti.size ≤ T.size then
              match unflat1 T (splice (flat T (nth T xs i)) off ws) with
              | some y => some ⟨p ∧ i < xs.length, .any, H'.set β (.arr T e (xs.set i y))⟩
              | none => none
            else none
          | _ => none
        | none => none
    | _ => none
  else none

theorem run_storeAt {t : TypeId} {i : TypeInfo} (hi : P.info? t = some i) {g off : Nat} {tt : TypeId} {cur : Array Value} (hg : w.heap[g]? = some (.cells cur tt (0, 0))) {u : Value} (hs : u.cells.size = i.size) (hle : off + i.size ≤ cur.size)
    (h1 : ∀ v ∈ u.cells.toList, v.oneCell' = true) :
    (Instr.storeAt t (.pointer (some ⟨g, off, none⟩)) u).run P w = .ok () (w.setRow g (cur.toList.take off ++ u.cells.toList ++ cur.toList.drop (off + u.cells.toList.length)).toArray) := by
  have := run_storeCells_at P g off tt u.cells.toList 0 cur w hg (by simp; omega) h1
  simp only [Nat.add_zero] at this
  simp [Instr.storeAt, Instr.sureAddr, storeVar, sizeOf, typeInfo, hi, hs]
  simpa [hs] using this

theorem RepL.get' {T : Ty} {xs : List T.D} {cells : List Value} (hr : RepL Φ T xs cells) (i : Nat) (h : i < xs.length) : RepT Φ T (xs[i]'h) ((cells.drop (i * T.size)).take T.size) := by
  obtain ⟨ws, h1, h2⟩ := hr.get i h
  have hl := h1.length
  have hlen := hr.length
  have hb : i * T.size + T.size ≤ xs.length * T.size := by rw [← Nat.succ_mul]; exact Nat.mul_le_mul_right _ h
  have : (cells.drop (i * T.size)).take T.size = ws := by
    apply List.ext_getElem?
    intro j
    rw [List.getElem?_take]
    by_cases hj : j < T.size
    · have hw : ws[j]? = some (ws[j]'(by omega)) := List.getElem?_eq_getElem _
      rw [if_pos hj, List.getElem?_drop, hw]
      exact h2 j _ hw
    · rw [if_neg hj, List.getElem?_eq_none (by omega)]
  rw [this]; exact h1

theorem RepL.set {T : Ty} {y : T.D} {vy : List Value} (hy : RepT Φ T y vy) : ∀ {xs : List T.D} {cells : List Value}, RepL Φ T xs cells → ∀ i, i < xs.length → RepL Φ T (xs.set i y) (cells.take (i * T.size) ++ vy ++ cells.drop (i * T.size + T.size))
  | [], _, _, i, h => by simp at h
  | x :: xs, _, hr, i, h => by
    obtain ⟨v1, v2, rfl, h1, h2⟩ := hr
    have hl := h1.length
    cases i with
    | zero =>
      refine ⟨vy, v2, ?_, hy, h2⟩
      simp only [Nat.zero_mul, List.take_zero, List.nil_append, Nat.zero_add, ← hl, List.drop_left]
    | succ i =>
      have ih := RepL.set hy h2 i (by simpa using h)
      refine ⟨v1, _, ?_, h1, ih⟩
      have e : (i + 1) * T.size = T.size + i * T.size := by rw [Nat.succ_mul]; omega
      rw [e, List.take_append, List.drop_append, List.take_of_length_le (by omega), List.drop_of_length_le (by omega)]
      rw [show T.size + i * T.size - v1.length = i * T.size by omega, show T.size + i * T.size + T.size - v1.length = i * T.size + T.size by omega]
      simp

theorem splice_at {α : Type} (cur us : List α) (N a s off : Nat) (h : off + us.length ≤ s) (h2 : a + s ≤ N) (h3 : N ≤ cur.length) :
    (cur.take N).take a ++ ((((cur.take N).drop a).take s).take off ++ us ++ (((cur.take N).drop a).take s).drop (off + us.length)) ++ (cur.take N).drop (a + s) = (cur.take (a + off) ++ us ++ cur.drop (a + off + us.length)).take N := by
  obtain ⟨A, r, rfl, hA⟩ : ∃ A r, cur = A ++ r ∧ A.length = a := ⟨cur.take a, cur.drop a, (List.take_append_drop _ _).symm, by simp; omega⟩
  obtain ⟨B, r, rfl, hB⟩ : ∃ B q, r = B ++ q ∧ B.length = off := ⟨r.take off, r.drop off, (List.take_append_drop _ _).symm, by simp at h3 ⊢; omega⟩
  obtain ⟨C, r, rfl, hC⟩ : ∃ B q, r = B ++ q ∧ B.length = us.length := ⟨r.take us.length, r.drop us.length, (List.take_append_drop _ _).symm, by simp at h3 ⊢; omega⟩
  obtain ⟨D, r, rfl, hD⟩ : ∃ B q, r = B ++ q ∧ B.length = s - off - us.length := ⟨r.take (s - off - us.length), r.drop (s - off - us.length), (List.take_append_drop _ _).symm, by simp at h3 ⊢; omega⟩
  obtain ⟨E, r, rfl, hE⟩ : ∃ B q, r = B ++ q ∧ B.length = N - a - s := ⟨r.take (N - a - s), r.drop (N - a - s), (List.take_append_drop _ _).symm, by simp at h3 ⊢; omega⟩
  have e1 : (A ++ (B ++ (C ++ (D ++ (E ++ r))))).take N = A ++ (B ++ (C ++ (D ++ E))) := by
    have : A ++ (B ++ (C ++ (D ++ (E ++ r)))) = (A ++ (B ++ (C ++ (D ++ E)))) ++ r := by simp
    rw [this, List.take_left' (by simp; omega)]
  have e2 : (A ++ (B ++ (C ++ (D ++ (E ++ r))))).take (a + off) = A ++ B := by
    have : A ++ (B ++ (C ++ (D ++ (E ++ r)))) = (A ++ B) ++ (C ++ (D ++ (E ++ r))) := by simp
    rw [this, List.take_left' (by simp; omega)]
  have e3 : (A ++ (B ++ (C ++ (D ++ (E ++ r))))).drop (a + off + us.length) = D ++ (E ++ r) := by
    have : A ++ (B ++ (C ++ (D ++ (E ++ r)))) = (A ++ (B ++ C)) ++ (D ++ (E ++ r)) := by simp
    rw [this, List.drop_left' (by simp; omega)]
  have e4 : (A ++ (B ++ (C ++ (D ++ E)))).drop a = B ++ (C ++ (D ++ E)) := List.drop_left' hA
  have e5 : (B ++ (C ++ (D ++ E))).take s = B ++ (C ++ D) := by
    have : B ++ (C ++ (D ++ E)) = (B ++ (C ++ D)) ++ E := by simp
    rw [this, List.take_left' (by simp; omega)]
  have e6 : (B ++ (C ++ D)).drop (off + us.length) = D := by
    have : B ++ (C ++ D) = (B ++ C) ++ D := by simp
    rw [this, List.drop_left' (by simp; omega)]
  have e7 : (A ++ (B ++ (C ++ (D ++ E)))).drop (a + s) = E := by
    have : A ++ (B ++ (C ++ (D ++ E))) = (A ++ (B ++ (C ++ D))) ++ E := by simp
    rw [this, List.drop_left' (by simp; omega)]
  rw [e1, e2, e3, e4, e5, e6, e7, List.take_left' hA, List.take_left' hB]
  have : A ++ B ++ us ++ (D ++ (E ++ r)) = (A ++ (B ++ us ++ D) ++ E) ++ r := by simp
  rw [this, List.take_left' (by simp; omega)]

theorem storeE_ok {t : TypeId} {ti : TI} (ht : tinfo P t = some ti) {x v : AV} {r : ER} (h : storeE H ti x v = some r) (hp : r.pre) (hI : Inv C Φ L H w) {a u : Value} (ha : CVal Φ L x a) (hu : CVal Φ L v u) :
    ∃ w', (Instr.storeAt t a u).run P w = .ok () w' ∧ EPost C Φ L r undef w' := by
  unfold storeE at h
  split at h
  · rename_i hcell
    have hcv := cellsA_ok hu hcell
    have h1 : ∀ v ∈ u.cells.toList, v.oneCell' = true := fun z hz => by
      obtain ⟨j, hj, rfl⟩ := List.mem_iff_getElem.1 hz
      exact (hcv.2 j _ _ (List.getElem?_eq_getElem (by rw [← hcv.1]; exact hj)) (List.getElem?_eq_getElem hj)).1
    obtain ⟨i, hi, hsz, _, _⟩ := tinfo_info ht
    split at h
    · rename_i γ off
      split at h
      · rename_i tt cs ho
        split at h
        · rename_i hs
          simp only [Option.some.injEq] at h; subst h
          obtain ⟨g, cap, vs, hl, hg, hc⟩ := hI.var ho
          cases ha with
          | ptr _ _ g' cap' hl' =>
            rw [hl] at hl'; simp only [Option.some.injEq, Prod.mk.injEq] at hl'; obtain ⟨rfl, rfl⟩ := hl'
            have hlen1 := hcv.1
            have hlen2 := hc.1
            rw [Array.length_toList] at hlen1 hlen2
            refine ⟨_, run_storeAt hi hg (by omega) (by omega) h1, Φ, L, More.refl _, fun _ _ h => h, ?_, .any _⟩
            refine hI.turn ho rfl rfl rfl hl (fun k hk => setRow_other w g k _ hk) (size_setRow _ _ _) rfl rfl rfl ?_
            refine ⟨g, cap, _, rfl, setRow_heap w g vs _ tt _ hg, ?_⟩
            exact hc.splice hcv off (by omega)
        · cases h
      · cases h
    · rename_i β sz ix off
      split at h
      · rename_i d e xs ix' ws ho
        split at h
        · rename_i hs
          simp only [Option.some.injEq] at h; subst h
          obtain ⟨rfl, rfl, hs3, hs4⟩ := hs
          cases ha with
          | optr _ _ _ _ g cap hl =>
            obtain ⟨F, hF⟩ := hI.deep
            obtain ⟨l, hl', c1, c2, c3, F1, F2, hix, hown, hr1, hc, hwl, hr3, _⟩ := (hF β _ ho rfl).is
            rw [hl] at hl'; simp only [Option.some.injEq] at hl'; subst hl'
            have hlen1 := hcv.1
            obtain ⟨cur, hg, hcs⟩ := ownsRow_block hown
            have hc1 := hr1.length fun x v F h => RepO.length h
            rw [List.length_take, Nat.min_eq_left (by omega)] at hc1
            have hc2 := hc.1
            simp only [List.length_append] at hcs
            rw [Array.length_toList] at hlen1
            refine ⟨_, run_storeAt hi hg (by omega) (by omega) h1, Φ, L, More.refl _, fun _ _ h => h, ?_, .any _⟩
            have hst : ∀ {c1 c2 c3 : List Value}, w.ownsRow 0 e d.ty.size (hdr (some (g, cap)) xs.length) xs.length (c1 ++ c2 ++ c3) → c1.length = ix * d.ty.size → c2.length = ws.length → _ := fun {c1 c2 c3} hown e1 e2 => ownsRow_store (us := u.cells.toList) (a := ix * d.ty.size + off) hown hg (by simp only [List.length_append, Array.length_toList]; omega)
            have hnew : ∀ {c1 c2 c3 : List Value}, w.ownsRow 0 e d.ty.size (hdr (some (g, cap)) xs.length) xs.length (c1 ++ c2 ++ c3) → c1.length = ix * d.ty.size → c2.length = ws.length →
                (w.setRow g (cur.toList.take (ix * d.ty.size + off) ++ u.cells.toList ++ cur.toList.drop (ix * d.ty.size + off + u.cells.toList.length)).toArray).ownsRow 0 e d.ty.size (hdr (some (g, cap)) xs.length) xs.length (c1 ++ (c2.take off ++ u.cells.toList ++ c2.drop (off + u.cells.toList.length)) ++ c3) := fun {c1 c2 c3} hown e1 e2 => by
              have := hst hown e1 e2
              rwa [splice3 e1 (by rw [Array.length_toList]; omega)] at this
            refine ⟨hI.toInv0.turn ho rfl hl (fun k hk => setRow_other w g k _ hk) (size_setRow _ _ _) rfl rfl rfl ⟨_, hnew hown hc1 hc2⟩, Deep.updF hI ho rfl (fun _ l G hlG hG hd => ?_) (fun b _ hb => setRow_other w g b _ fun e => by subst e; exact hb cap hl) (by rw [size_setRow]; exact Nat.le_refl _) (More.refl _) fun _ _ h _ => h⟩
            obtain ⟨d1, d2, d3, G1, G2, _, hown', hr1', hc', hwl', hr3', hGe⟩ := hd
            rw [hl] at hlG; simp only [Option.some.injEq] at hlG; subst hlG
            subst hGe
            have hd1 := hr1'.length fun x v F h => RepO.length h
            rw [List.length_take, Nat.min_eq_left (by omega)] at hd1
            have kp : ∀ b, b ∈ G1 ++ G2 → (w.setRow g (cur.toList.take (ix * d.ty.size + off) ++ u.cells.toList ++ cur.toList.drop (ix * d.ty.size + off + u.cells.toList.length)).toArray).heap[b]? = w.heap[b]? := fun b hb => setRow_other w g b _ fun e => by subst e; exact (hG b hb).2 cap rfl
            refine ⟨d1, _, d3, G1, G2, hix, hnew hown' hd1 hc'.1, hr1'.mono fun x vs G hG' hx => hx.keep fun b hb => kp b (List.mem_append.2 (.inl (hG' b hb))), hc'.splice hcv off (by omega), ?_, hr3'.mono fun x vs G hG' hx => hx.keep fun b hb => kp b (List.mem_append.2 (.inr (hG' b hb))), rfl⟩
            rw [← hwl]
            simp only [splice, List.length_append, List.length_take, List.length_drop]; omega
        · cases h
      · rename_i d e xs ho
        split at h
        · rename_i hs
          obtain ⟨rfl, rfl, hs3, hs4⟩ := hs
          split at h
          · rename_i p y H' habs
            split at h
            · rename_i hlv
              simp only [Option.some.injEq] at h; subst h
              obtain ⟨hp1, hix⟩ := hp
              obtain ⟨F, hF⟩ := hI.deep
              obtain ⟨v1, v2, G, hvs, hrep, hnil, hI', hdet⟩ := absorb_ok hI.toInv0 (.of_deep hF) habs hp1 hcv
              have hv2 := hnil.inv_nil
              subst hv2
              rw [List.append_nil] at hvs
              subst hvs
              rw [List.nil_append] at hdet
              obtain ⟨hkl, hkeep⟩ := absorb_keep habs
              have hltβ : β < H.length := (List.getElem?_eq_some_iff.1 ho).1
              have ho' : H'[β]? = some (.deep d e xs) := by
                have hq : H'[β]? = some (H'[β]'(by omega)) := List.getElem?_eq_getElem _
                obtain ⟨o, e1, e2⟩ := hkeep β _ hq
                rw [ho] at e1; simp only [Option.some.injEq] at e1; subst e1
                rcases e2 with e2 | e2
                · rw [hq, ← e2]
                · rw [hq, e2] at hlv; cases hlv
              cases ha with
              | optr _ _ _ _ g cap hl =>
                obtain ⟨l, hl', cells, hown, hr⟩ := (hdet.ind β _ ho' rfl).is
                rw [hl] at hl'; simp only [Option.some.injEq] at hl'; subst hl'
                obtain ⟨c1, c2, c3, F1, F2, F3, rfl, hFe, hr1, hr2, hr3⟩ := hr.split ix hix
                have hlen1 := hcv.1
                obtain ⟨cur, hg, hcs⟩ := ownsRow_block hown
                have hc1 := hr1.length fun x v F h => RepO.length h
                rw [List.length_take, Nat.min_eq_left (by omega)] at hc1
                have hc2 := hr2.length
                simp only [List.length_append] at hcs
                rw [Array.length_toList] at hlen1
                have hus : u.cells.toList.length = d.ty.size := by rw [Array.length_toList]; omega
                refine ⟨_, run_storeAt hi hg (by omega) (by omega) h1, Φ, L, More.refl _, fun _ _ h => h, ?_, .any _⟩
                have hst := ownsRow_store (us := u.cells.toList) (a := ix * d.ty.size + 0) hown hg (by simp only [List.length_append]; omega)
                rw [splice3 hc1 (by omega)] at hst
                rw [show c2.take 0 ++ u.cells.toList ++ c2.drop (0 + u.cells.toList.length) = u.cells.toList by rw [List.take_zero, List.nil_append, Nat.zero_add, List.drop_of_length_le (by omega), List.append_nil]] at hst
                have hnd : ((F1 ++ F2 ++ F3)).Nodup := by rw [← hFe]; exact (hdet.ind β _ ho' rfl).nd
                have hsubF : ∀ b ∈ F1 ++ G ++ F3, b ∈ F β ∨ b ∈ G := fun b hb => by
                  rw [hFe]
                  simp only [List.mem_append] at hb ⊢
                  rcases hb with (hb | hb) | hb
                  · exact .inl (.inl (.inl hb))
                  · exact .inr hb
                  · exact .inl (.inr hb)
                have hdG : ∀ b ∈ G, b ∉ F β := fun b hb => ((hdet.ok b hb).2.2.2 β _ ho' rfl).1
                have hndn : (F1 ++ G ++ F3).Nodup := by
                  rw [List.append_assoc, List.nodup_append] at hnd
                  obtain ⟨n1, n2, n3⟩ := hnd
                  rw [List.nodup_append] at n2
                  rw [List.append_assoc, List.nodup_append]
                  refine ⟨n1, ?_, fun a ha b hb e => ?_⟩
                  · rw [List.nodup_append]
                    exact ⟨hdet.nd, n2.2.1, fun a ha b hb e => by subst e; exact hdG a ha (by rw [hFe]; simp [hb])⟩
                  · subst e
                    rcases List.mem_append.1 hb with hb | hb
                    · exact hdG a hb (by rw [hFe]; simp [ha])
                    · exact n3 a ha a (List.mem_append.2 (.inr hb)) rfl
                have hne : ∀ b ∈ F1 ++ G ++ F3, b ≠ g := fun b hb e => by
                  subst e
                  rcases hsubF b hb with hb | hb
                  · exact (hdet.ind β _ ho' rfl).hd b hb β _ cap ho' rfl hl
                  · exact ((hdet.ok b hb).2.2.2 β _ ho' rfl).2 cap hl
                refine ⟨hI'.turn ho' rfl hl (fun k hk => setRow_other w g k _ hk) (size_setRow _ _ _) rfl rfl rfl ⟨_, by rw [List.length_set]; exact hst⟩,
                  Det.put hI' hdet ho' rfl hl (fun b _ hb => setRow_other w g b _ fun e => by subst e; exact hb cap rfl) (by rw [size_setRow]; exact Nat.le_refl _) hsubF hndn fun _ => ⟨_, by rw [List.length_set]; exact hst, ?_⟩⟩
                have kp : ∀ b ∈ F1 ++ G ++ F3, (w.setRow g (cur.toList.take (ix * d.ty.size + 0) ++ u.cells.toList ++ cur.toList.drop (ix * d.ty.size + 0 + u.cells.toList.length)).toArray).heap[b]? = w.heap[b]? := fun b hb => setRow_other w g b _ (hne b hb)
                exact (LRep.join hix hr1 hrep hr3).mono fun x vs G hG hx => hx.keep fun b hb => kp b (hG b hb)
            · cases h
          · cases h
        · cases h
      · skip
        split at h
        · rename_i p ws H' hsol
          split at h
          · rename_i T e xs ho
            split at h
            · rename_i hs
              obtain ⟨hs1, hs2, hs3⟩ := hs
              split at h
              · rename_i y hy
                simp only [Option.some.injEq] at h; subst h
                obtain ⟨hp1, hix⟩ := hp
                obtain ⟨Φ', hm, hI', hsv⟩ := solid_ok hI hsol hp1
                subst hs1
                cases ha with
                | optr _ _ _ _ g cap hl =>
                  obtain ⟨l, cells, hl', hown, hr⟩ := hI'.row ho
                  rw [hl] at hl'; simp only [Option.some.injEq] at hl'; subst hl'
                  rcases hown.2 with ⟨h0, _⟩ | ⟨g', cap', cur, hv, _, hg, hle, hmx, hcs, htake⟩
                  · simp [hdr] at h0
                  · simp only [hdr, Value.slice.injEq, Option.some.injEq, Addr.mk.injEq] at hv
                    obtain ⟨⟨rfl, _⟩, _, rfl⟩ := hv
                    have hlen1 := hcv.1
                    rw [Array.length_toList] at hlen1
                    have hbound : ix * T.size + T.size ≤ xs.length * T.size := by rw [← Nat.succ_mul]; exact Nat.mul_le_mul_right _ hix
                    have hbound2 : xs.length * T.size ≤ cap * T.size := Nat.mul_le_mul_right _ hle
                    refine ⟨_, run_storeAt hi hg (by omega) (by omega) h1, Φ', L, hm, fun _ _ h => h, ?_, .any _⟩
                    refine hI'.turn ho rfl rfl rfl hl (fun k hk => setRow_other w g k _ hk) (size_setRow _ _ _) rfl rfl rfl ?_
                    have hn : nth T xs ix = xs[ix] := by simp [nth, List.getD, List.getElem?_eq_getElem hix]
                    have hel := hr.get' ix hix
                    have hlw : (flat T (nth T xs ix)).length = T.size := flat_length _ _
                    have hus := hsv _ hcv
                    have hwl := hus.1
                    rw [Array.length_toList] at hwl
                    have hsp : CVals Φ' L (splice (flat T (nth T xs ix)) off ws) _ := CVals.splice (by rw [hn]; exact CVals.of_rep hel) hus off (by rw [hlw]; omega)
                    have hy' := unflat1_ok hy hsp
                    have hset := RepL.set hy' hr ix hix
                    refine ⟨_, ?_, hset⟩
                    have hcl := hr.length
                    have hcl2 : cur.toList.length = cur.size := Array.length_toList
                    have hcl3 : u.cells.toList.length = u.cells.size := Array.length_toList
                    have heq := splice_at cur.toList u.cells.toList (xs.length * T.size) (ix * T.size) T.size off (by omega) hbound (by omega)
                    rw [htake] at heq
                    rw [heq]
                    refine ⟨by simp only [List.length_take, List.length_append, List.length_drop, Array.length_toList, List.length_set]; omega, .inr ⟨g, cap, _, by simp [hdr], Nat.zero_le _, setRow_heap w g cur _ e _ hg, by simpa using hle, hmx, ?_, ?_⟩⟩
                    · simp only [List.size_toArray, List.length_take, List.length_append, List.length_drop, Array.length_toList]; omega
                    · simp
              · cases h
            · cases h
          · cases h
        · cases h
    · cases h
  · cases h
end
end Go.Proofs.Ythojapklndjidaa
