/- What a world that agrees with a symbolic state tells of its cells. -/
import Derived.Test.YtjiejfpbioljeaaSy2
namespace Go.Proofs.Ytjiejfpbioljeaa
open Go Go.RowKit
set_option linter.unusedVariables false

theorem add_none (b o j : Nat) : (⟨b, o, none⟩ : Addr).add j = ⟨b, o + j, none⟩ := by
  unfold Addr.add; split
  · rename_i h; subst h; rfl
  · rfl

theorem lt_of_block {w : World} {g : Nat} {o : Obj} (h : w.heap[g]? = some o) : g < w.heap.size := (Array.getElem?_eq_some_iff.1 h).1

theorem ownsRow_keep {w w' : World} {e : TypeId} {size n : Nat} {v : Value} {xs : List Value} (h : w.ownsRow 0 e size v n xs) (hk : ∀ g, v.ownBlock = some g → g < w.heap.size → w'.heap[g]? = w.heap[g]?) : w'.ownsRow 0 e size v n xs := by
  obtain ⟨h1, h2⟩ := h
  refine ⟨h1, ?_⟩
  rcases h2 with h2 | ⟨g, cap, cur, rfl, hb, hg, r⟩
  · exact .inl h2
  · exact .inr ⟨g, cap, cur, rfl, hb, by rw [hk g rfl (lt_of_block hg)]; exact hg, r⟩

theorem ObjOk.keep {Φ : Nat → Option Obj} {L : Locs} {w w' : World} {l : Option (Nat × Nat)} {o : AObj} (h : ObjOk Φ L w l o)
    (hk : ∀ g cap, o.live = true → l = some (g, cap) → g < w.heap.size → w'.heap[g]? = w.heap[g]?) : ObjOk Φ L w' l o := by
  cases o with
  | dead => trivial
  | cells t cs =>
    obtain ⟨g, cap, vs, rfl, hg, hc⟩ := h
    exact ⟨g, cap, vs, rfl, by rw [hk g cap rfl rfl (lt_of_block hg)]; exact hg, hc⟩
  | arr T e xs =>
    obtain ⟨cells, h1, h2⟩ := h
    refine ⟨cells, ownsRow_keep h1 fun g hg hlt => ?_, h2⟩
    cases l with
    | none => simp [hdr, Value.ownBlock] at hg
    | some p => obtain ⟨b, c⟩ := p; simp [hdr, Value.ownBlock] at hg; subst hg; exact hk b c rfl rfl hlt
  | frz T xs => exact h
  | map K V xs =>
    obtain ⟨g, cap, es, clock, rfl, hg, hc⟩ := h
    exact ⟨g, cap, es, clock, rfl, by rw [hk g cap rfl rfl (lt_of_block hg)]; exact hg, hc⟩

theorem ObjOk.more {Φ Φ' : Nat → Option Obj} {L L' : Locs} {w : World} {l : Option (Nat × Nat)} {o : AObj} (hm : More Φ Φ') (hL : ∀ (i : Nat) x, L[i]? = some x → L'[i]? = some x) (h : ObjOk Φ L w l o) : ObjOk Φ' L' w l o := by
  cases o with
  | dead => trivial
  | cells t cs =>
    obtain ⟨g, cap, vs, rfl, hg, hc⟩ := h
    exact ⟨g, cap, vs, rfl, hg, hc.1, fun i c v h1 h2 => ⟨(hc.2 i c v h1 h2).1, (hc.2 i c v h1 h2).2.mono hm hL⟩⟩
  | arr T e xs =>
    obtain ⟨cells, h1, h2⟩ := h
    exact ⟨cells, h1, h2.more hm⟩
  | frz T xs => exact RepT.more hm h
  | map K V xs =>
    obtain ⟨g, cap, es, clock, rfl, hg, hc⟩ := h
    exact ⟨g, cap, es, clock, rfl, hg, hc.more hm⟩

section
variable {C : Ctx} {Φ : Nat → Option Obj} {L : Locs} {H : List AObj} {w w' : World}

/-- New blocks turn nothing. -/
theorem Inv.below (h : Inv C Φ L H w) (hb : Below w.heap.size w w') : Inv C Φ L H w' where
  len := h.len
  frz b o hbo := by rw [hb.block b (lt_of_block (h.frz b o hbo))]; exact h.frz b o hbo
  base := h.base
  fresh := h.fresh
  keep b hlt hW := by rw [hb.block b (Nat.lt_of_lt_of_le hlt h.size)]; exact h.keep b hlt hW
  os := hb.os.trans h.os
  tape := hb.tape.trans h.tape
  output := hb.output.trans h.output
  size := Nat.le_trans h.size hb.size
  obj γ o ho := by
    obtain ⟨l, hl, hk⟩ := h.obj γ o ho
    exact ⟨l, hl, hk.keep fun g cap _ _ hlt => hb.block g hlt⟩
  own := h.own
  inj := h.inj
  pre := h.pre

theorem Inv.lt (h : Inv C Φ L H w) {γ : Nat} {o : AObj} {g cap : Nat} (ho : H[γ]? = some o) (hlive : o.live = true) (hl : L[γ]? = some (some (g, cap))) : g < w.heap.size := by
  obtain ⟨l, hl', hk⟩ := h.obj γ o ho
  rw [hl] at hl'; simp only [Option.some.injEq] at hl'; subst hl'
  cases o with
  | dead => cases hlive
  | frz T xs => cases hlive
  | cells t cs =>
    obtain ⟨g', cap', vs, he, hg, _⟩ := hk
    simp only [Option.some.injEq, Prod.mk.injEq] at he
    obtain ⟨rfl, rfl⟩ := he
    exact lt_of_block hg
  | map K V xs =>
    obtain ⟨g', cap', es, clock, he, hg, _⟩ := hk
    simp only [Option.some.injEq, Prod.mk.injEq] at he
    obtain ⟨rfl, rfl⟩ := he
    exact lt_of_block hg
  | arr T e xs =>
    obtain ⟨cells, hown, _⟩ := hk
    rcases hown.2 with ⟨h0, _⟩ | ⟨g', cap', cur, hv, _, hh, _⟩
    · simp [hdr] at h0
    · simp only [hdr, Value.slice.injEq, Option.some.injEq, Addr.mk.injEq] at hv
      obtain ⟨⟨rfl, _⟩, _⟩ := hv
      exact lt_of_block hh

/-- Two worlds that are alike where the symbolic state looks. -/
def Agr (Φ : Nat → Option Obj) (L : Locs) (H : List AObj) (w w' : World) : Prop :=
  (∀ b o, Φ b = some o → w'.heap[b]? = w.heap[b]?) ∧ ∀ (γ : Nat) o g cap, H[γ]? = some o → o.live = true → L[γ]? = some (some (g, cap)) → w'.heap[g]? = w.heap[g]?

theorem Inv.agr (h : Inv C Φ L H w) (hb : Below w.heap.size w w') : Agr Φ L H w w' :=
  ⟨fun b o ho => hb.block b (lt_of_block (h.frz b o ho)), fun γ o g cap ho hlv hl => hb.block g (h.lt ho hlv hl)⟩
theorem Agr.refl : Agr Φ L H w w := ⟨fun _ _ _ => rfl, fun _ _ _ _ _ _ _ => rfl⟩
theorem Agr.rep (h : Agr Φ L H w w') {T : Ty} {xs : List T.D} {b o n cap : Nat} (hr : RepT Φ (.sl T) xs [.slice (some ⟨b, o, none⟩) n cap]) (hi : 0 < xs.length) : w'.heap[b]? = w.heap[b]? := by
  obtain ⟨A, cap', hv, _, _, hx⟩ := hr
  simp at hv
  obtain ⟨rfl, rfl, rfl⟩ := hv
  rcases hx with hx | ⟨b', o', cs, t, fz, hA, hb, hx⟩
  · omega
  · simp at hA
    obtain ⟨rfl, rfl⟩ := hA
    exact h.1 _ _ hb

theorem RepL.get {Φ : Nat → Option Obj} {T : Ty} : ∀ {xs : List T.D} {cells : List Value}, RepL Φ T xs cells → ∀ (i : Nat) (h : i < xs.length), ∃ ws, RepT Φ T (xs[i]'h) ws ∧ ∀ (j : Nat) (v : Value), ws[j]? = some v → cells[i * T.size + j]? = some v
  | [], _, _, i, h => by simp at h
  | x :: xs, _, hr, i, h => by
    obtain ⟨v1, v2, rfl, h1, h2⟩ := hr
    have hl := h1.length
    cases i with
    | zero =>
      refine ⟨v1, h1, fun j v hj => ?_⟩
      have hj' : j < v1.length := (List.getElem?_eq_some_iff.1 hj).1
      rw [Nat.zero_mul, Nat.zero_add, List.getElem?_append_left hj']; exact hj
    | succ i =>
      obtain ⟨ws, hw, hc⟩ := RepL.get h2 i (by simpa using h)
      refine ⟨ws, hw, fun j v hj => ?_⟩
      rw [List.getElem?_append_right (by rw [hl, Nat.succ_mul]; omega), hl, show (i + 1) * T.size + j - T.size = i * T.size + j by rw [Nat.succ_mul]; omega]
      exact hc j v hj

theorem RepL.length {Φ : Nat → Option Obj} {T : Ty} : ∀ {xs : List T.D} {cells : List Value}, RepL Φ T xs cells → cells.length = xs.length * T.size
  | [], _, h => by have h : _ = [] := h; subst h; simp
  | x :: xs, _, h => by
    obtain ⟨v1, v2, rfl, h1, h2⟩ := h
    simp [h1.length, h2.length, Nat.succ_mul]; omega

/-- A cell of a frozen block. -/
theorem Inv.cell_frz (h : Inv C Φ L H w) {b : Nat} {cs : Array Value} {t : TypeId} {fz : Nat × Nat} (hb : Φ b = some (.cells cs t fz)) (j : Nat) : w.cell? ⟨b, j, none⟩ = cs[j]? :=
  cell_of_row w b j cs t fz (h.frz _ _ hb)

/-- The cells of an element of a slice of frozen memory. -/
theorem Inv.elem (h : Inv C Φ L H w) {T : Ty} {xs : List T.D} {b o n cap : Nat} (hr : RepT Φ (.sl T) xs [.slice (some ⟨b, o, none⟩) n cap]) (i : Nat) (hi : i < xs.length) :
    ∃ ws, RepT Φ T (xs[i]'hi) ws ∧ ∀ (j : Nat) (v : Value), ws[j]? = some v → w.cell? ⟨b, o + (i * T.size + j), none⟩ = some v := by
  obtain ⟨A, cap', hv, _, _, hx⟩ := hr
  simp at hv
  obtain ⟨rfl, rfl, rfl⟩ := hv
  rcases hx with hx | ⟨b', o', cs, t, fz, hA, hb, hx⟩
  · omega
  · simp at hA
    obtain ⟨rfl, rfl⟩ := hA
    obtain ⟨ws, h1, h2⟩ := hx i hi
    exact ⟨ws, h1, fun j v hj => by rw [h.cell_frz hb]; exact h2 j v hj⟩

/-- The cells of a variable of the call's own. -/
theorem Inv.var (h : Inv C Φ L H w) {γ : Nat} {t : TypeId} {cs : List AV} (ho : H[γ]? = some (.cells t cs)) : ∃ g cap vs, L[γ]? = some (some (g, cap)) ∧ w.heap[g]? = some (.cells vs t (0, 0)) ∧ CVals Φ L cs vs.toList := by
  obtain ⟨l, hl, g, cap, vs, rfl, hg, hc⟩ := h.obj γ _ ho
  exact ⟨g, cap, vs, hl, hg, hc⟩

/-- The cells of an array of the call's own. -/
theorem Inv.row (h : Inv C Φ L H w) {γ : Nat} {T : Ty} {e : TypeId} {xs : List T.D} (ho : H[γ]? = some (.arr T e xs)) : ∃ l cells, L[γ]? = some l ∧ w.ownsRow 0 e T.size (hdr l xs.length) xs.length cells ∧ RepL Φ T xs cells := by
  obtain ⟨l, hl, cells, h1, h2⟩ := h.obj γ _ ho
  exact ⟨l, cells, hl, h1, h2⟩

theorem Inv.row_elem (h : Inv C Φ L H w) {γ : Nat} {T : Ty} {e : TypeId} {xs : List T.D} (ho : H[γ]? = some (.arr T e xs)) {g cap : Nat} (hl : L[γ]? = some (some (g, cap))) (i : Nat) (hi : i < xs.length) :
    ∃ ws, RepT Φ T (xs[i]'hi) ws ∧ ∀ (j : Nat) (v : Value), ws[j]? = some v → w.cell? ⟨g, i * T.size + j, none⟩ = some v := by
  obtain ⟨l, cells, hl', hown, hr⟩ := h.row ho
  rw [hl] at hl'; simp at hl'; subst hl'
  obtain ⟨ws, h1, h2⟩ := hr.get i hi
  refine ⟨ws, h1, fun j v hj => ?_⟩
  have := h2 j v hj
  rcases hown.2 with ⟨h0, _⟩ | ⟨g', cap', cur, hv, _, hg, _, _, _, htake⟩
  · simp [hdr] at h0
  · simp [hdr] at hv
    obtain ⟨rfl, rfl⟩ := hv
    rw [cell_of_row w g _ cur e (0, 0) hg]
    rw [← htake] at this
    rw [List.getElem?_take] at this
    split at this
    · simpa using this
    · cases this
end

/-! ### Loads -/

@[simp] def packV (agg : Bool) (vs : List Value) : Value :=
  if agg then .agg vs.toArray else vs.headD undef

def aggD : TypeDesc → Bool
  | .struct _ => true
  | .array _ _ => true
  | _ => false

theorem run_loadAt {P : Program} {w : World} {t : TypeId} {i : TypeInfo} {d : TypeDesc} (hi : P.info? t = some i) (hd : P.underlying t = some d) (b o : Nat) (ws : List Value)
    (hl : ws.length = i.size) (hc : ∀ (j : Nat) v, ws[j]? = some v → w.cell? ⟨b, o + j, none⟩ = some v) (h1 : aggD d = false → i.size = 1) :
    (Instr.loadAt t (.pointer (some ⟨b, o, none⟩))).run P w = .ok (packV (aggD d) ws) w := by
  have hall := run_loadCells_list (P := P) w ⟨b, o, none⟩ ws (fun j v hj => by rw [add_none]; exact hc j v hj)
  rw [hl] at hall
  have hag : (isAgg t).run P w = .ok (aggD d) w := by
    unfold isAgg
    simp [run_underlying hd]
    cases d <;> simp [aggD]
  simp only [Instr.loadAt, Instr.sureAddr, loadVar, Sem.run_bind, Sem.run_pure, Result.andThen_ok, hag, Sem.run_ite]
  by_cases h : aggD d = true
  · simp [sizeOf, typeInfo, hi, hall, h]
  · have h' : aggD d = false := by simpa using h
    have h1' := h1 h'
    rw [h1'] at hl
    match ws, hl with
    | [v], _ =>
      have := hc 0 v rfl
      simp at this
      simp [run_load, this, h']

theorem packV_ok {Φ : Nat → Option Obj} {L : Locs} {cs : List AV} {vs : List Value} (h : CVals Φ L cs vs) : CVal Φ L (.agg cs) (.agg vs.toArray) := by
  refine .agg cs _ (by simp [h.1]) (fun i v hv => ?_) (fun i c v hc hv => (h.2 i c v hc (by simpa using hv)).2)
  have hv' : vs[i]? = some v := by simpa using hv
  have hlt : i < vs.length := (List.getElem?_eq_some_iff.1 hv').1
  exact (h.2 i _ v (List.getElem?_eq_getElem (by rw [← h.1]; exact hlt)) hv').1

theorem CVals.sub {Φ : Nat → Option Obj} {L : Locs} {cs : List AV} {vs : List Value} (h : CVals Φ L cs vs) (off n : Nat) : CVals Φ L ((cs.drop off).take n) ((vs.drop off).take n) := by
  refine ⟨by simp [h.1], fun i c v hc hv => ?_⟩
  rw [List.getElem?_take] at hc hv
  split at hc
  · rename_i hlt
    rw [if_pos hlt] at hv
    rw [List.getElem?_drop] at hc hv
    exact h.2 _ c v hc hv
  · cases hc
end Go.Proofs.Ytjiejfpbioljeaa
