/- What a world that agrees with a symbolic state tells of its cells. -/
import Derived.Test.YthojapklndjidaaSy2
namespace Go.Proofs.Ythojapklndjidaa
open Go Go.RowKit
set_option linter.all false
set_option linter.unusedVariables false

theorem add_none (b o j : Nat) : (⟨b, o, none⟩ : Addr).add j = ⟨b, o + j, none⟩ := by
  unfold Addr.add; split
  · rename_i h; subst h; rfl
  · rfl

theorem lt_of_block {w : World} {g : Nat} {o : Obj} (h : w.heap[g]? = some o) : g < w.heap.size := (Array.getElem?_eq_some_iff.1 h).1

theorem ownsRow_keep {w w' : World} {e : TypeId} {size n : Nat} {v : Value} {xs : List Value} (h : w.ownsRow 0 e size v n xs) (hk : ∀ g, v.ownBlock = some g → g < w.heap.size → w'.heap[g]? = w.heap[g]?) : w'.ownsRow 0 e size v n xs := by
  obtain ⟨h1, h2⟩ := h
  refine ⟨h1, ?_⟩
  rcases h2 with h2 | ⟨g, cap, cur, rfl, hb, hg, r⟩
  · exact .inl h2
  · exact .inr ⟨g, cap, cur, rfl, hb, by rw [hk g rfl (lt_of_block hg)]; exact hg, r⟩

theorem own_hdr {l : Option (Nat × Nat)} {n g : Nat} (h : (hdr l n).ownBlock = some g) : ∃ cap, l = some (g, cap) := by
  cases l with
  | none => simp [hdr, Value.ownBlock] at h
  | some p => obtain ⟨a, c⟩ := p; simp [hdr, Value.ownBlock] at h; subst h; exact ⟨c, rfl⟩

theorem ObjOk.keep {Φ : Nat → Option Obj} {L : Locs} {w w' : World} {l : Option (Nat × Nat)} {o : AObj} (h : ObjOk Φ L w l o)
    (hk : ∀ g cap, o.live = true → l = some (g, cap) → g < w.heap.size → w'.heap[g]? = w.heap[g]?) : ObjOk Φ L w' l o := by
  cases o with
  | dead => trivial
  | cells t cs =>
    obtain ⟨g, cap, vs, rfl, hg, hc⟩ := h
    exact ⟨g, cap, vs, rfl, by rw [hk g cap rfl rfl (lt_of_block hg)]; exact hg, hc⟩
  | arr T e xs =>
    obtain ⟨cells, h1, h2⟩ := h
    refine ⟨cells, ownsRow_keep h1 fun g hg hlt => ?_, h2⟩
    cases l with
    | none => simp [hdr, Value.ownBlock] at hg
    | some p => obtain ⟨b, c⟩ := p; simp [hdr, Value.ownBlock] at hg; subst hg; exact hk b c rfl rfl hlt
  | frz T xs => exact h
  | map K V xs =>
    obtain ⟨g, cap, es, clock, rfl, hg, hc⟩ := h
    exact ⟨g, cap, es, clock, rfl, by rw [hk g cap rfl rfl (lt_of_block hg)]; exact hg, hc⟩
  | deep d e xs =>
    obtain ⟨cells, h1⟩ := h
    exact ⟨cells, ownsRow_keep h1 fun g hg hlt => by obtain ⟨c, rfl⟩ := own_hdr hg; exact hk g c rfl rfl hlt⟩
  | ope d e xs i ws =>
    obtain ⟨cells, h1⟩ := h
    exact ⟨cells, ownsRow_keep h1 fun g hg hlt => by obtain ⟨c, rfl⟩ := own_hdr hg; exact hk g c rfl rfl hlt⟩

theorem ObjOk.more {Φ Φ' : Nat → Option Obj} {L L' : Locs} {w : World} {l : Option (Nat × Nat)} {o : AObj} (hm : More Φ Φ') (hL : ∀ (i : Nat) x, L[i]? = some x → L'[i]? = some x) (h : ObjOk Φ L w l o) : ObjOk Φ' L' w l o := by
  cases o with
  | dead => trivial
  | cells t cs =>
    obtain ⟨g, cap, vs, rfl, hg, hc⟩ := h
    exact ⟨g, cap, vs, rfl, hg, hc.1, fun i c v h1 h2 => ⟨(hc.2 i c v h1 h2).1, (hc.2 i c v h1 h2).2.mono hm hL⟩⟩
  | arr T e xs =>
    obtain ⟨cells, h1, h2⟩ := h
    exact ⟨cells, h1, h2.more hm⟩
  | frz T xs => exact RepT.more hm h
  | map K V xs =>
    obtain ⟨g, cap, es, clock, rfl, hg, hc⟩ := h
    exact ⟨g, cap, es, clock, rfl, hg, hc.more hm⟩
  | deep d e xs => exact h
  | ope d e xs i ws => exact h

section
variable {C : Ctx} {Φ : Nat → Option Obj} {L : Locs} {H : List AObj} {w w' : World}

/-- New blocks turn nothing. -/
theorem Inv0.below (h : Inv0 C Φ L H w) (hb : Below w.heap.size w w') : Inv0 C Φ L H w' where
  len := h.len
  frz b o hbo := by rw [hb.block b (lt_of_block (h.frz b o hbo))]; exact h.frz b o hbo
  base := h.base
  glob := h.glob
  fresh := h.fresh
  keep b hlt hW := by rw [hb.block b (Nat.lt_of_lt_of_le hlt h.size)]; exact h.keep b hlt hW
  os := hb.os.trans h.os
  tape := hb.tape.trans h.tape
  output := hb.output.trans h.output
  size := Nat.le_trans h.size hb.size
  obj γ o ho := by
    obtain ⟨l, hl, hk⟩ := h.obj γ o ho
    exact ⟨l, hl, hk.keep fun g cap _ _ hlt => hb.block g hlt⟩
  own := h.own
  inj := h.inj
  pre := h.pre

theorem Inv0.lt (h : Inv0 C Φ L H w) {γ : Nat} {o : AObj} {g cap : Nat} (ho : H[γ]? = some o) (hlive : o.live = true) (hl : L[γ]? = some (some (g, cap))) : g < w.heap.size := by
  obtain ⟨l, hl', hk⟩ := h.obj γ o ho
  rw [hl] at hl'; simp only [Option.some.injEq] at hl'; subst hl'
  cases o with
  | dead => cases hlive
  | frz T xs => cases hlive
  | cells t cs =>
    obtain ⟨g', cap', vs, he, hg, _⟩ := hk
    simp only [Option.some.injEq, Prod.mk.injEq] at he
    obtain ⟨rfl, rfl⟩ := he
    exact lt_of_block hg
  | map K V xs =>
    obtain ⟨g', cap', es, clock, he, hg, _⟩ := hk
    simp only [Option.some.injEq, Prod.mk.injEq] at he
    obtain ⟨rfl, rfl⟩ := he
    exact lt_of_block hg
  | arr T e xs =>
    obtain ⟨cells, hown, _⟩ := hk
    rcases hown.2 with ⟨h0, _⟩ | ⟨g', cap', cur, hv, _, hh, _⟩
    · simp [hdr] at h0
    · simp only [hdr, Value.slice.injEq, Option.some.injEq, Addr.mk.injEq] at hv
      obtain ⟨⟨rfl, _⟩, _⟩ := hv
      exact lt_of_block hh
  | deep d e xs =>
    obtain ⟨cells, hown⟩ := hk
    rcases hown.2 with ⟨h0, _⟩ | ⟨g', cap', cur, hv, _, hh, _⟩
    · simp [hdr] at h0
    · simp only [hdr, Value.slice.injEq, Option.some.injEq, Addr.mk.injEq] at hv
      obtain ⟨⟨rfl, _⟩, _⟩ := hv
      exact lt_of_block hh
  | ope d e xs i ws =>
    obtain ⟨cells, hown⟩ := hk
    rcases hown.2 with ⟨h0, _⟩ | ⟨g', cap', cur, hv, _, hh, _⟩
    · simp [hdr] at h0
    · simp only [hdr, Value.slice.injEq, Option.some.injEq, Addr.mk.injEq] at hv
      obtain ⟨⟨rfl, _⟩, _⟩ := hv
      exact lt_of_block hh

/-- Two worlds that are alike where the symbolic state looks. -/
def Agr (Φ : Nat → Option Obj) (L : Locs) (H : List AObj) (w w' : World) : Prop :=
  (∀ b o, Φ b = some o → w'.heap[b]? = w.heap[b]?) ∧ ∀ (γ : Nat) o g cap, H[γ]? = some o → o.live = true → L[γ]? = some (some (g, cap)) → w'.heap[g]? = w.heap[g]?

theorem Inv0.agr (h : Inv0 C Φ L H w) (hb : Below w.heap.size w w') : Agr Φ L H w w' :=
  ⟨fun b o ho => hb.block b (lt_of_block (h.frz b o ho)), fun γ o g cap ho hlv hl => hb.block g (h.lt ho hlv hl)⟩
theorem Agr.refl : Agr Φ L H w w := ⟨fun _ _ _ => rfl, fun _ _ _ _ _ _ _ => rfl⟩
theorem Agr.rep (h : Agr Φ L H w w') {T : Ty} {xs : List T.D} {b o n cap : Nat} (hr : RepT Φ (.sl T) xs [.slice (some ⟨b, o, none⟩) n cap]) (hi : 0 < xs.length) : w'.heap[b]? = w.heap[b]? := by
  obtain ⟨A, cap', hv, _, _, hx⟩ := hr
  simp at hv
  obtain ⟨rfl, rfl, rfl⟩ := hv
  rcases hx with hx | ⟨b', o', cs, t, fz, hA, hb, hx⟩
  · omega
  · simp at hA
    obtain ⟨rfl, rfl⟩ := hA
    exact h.1 _ _ hb

theorem RepL.get {Φ : Nat → Option Obj} {T : Ty} : ∀ {xs : List T.D} {cells : List Value}, RepL Φ T xs cells → ∀ (i : Nat) (h : i < xs.length), ∃ ws, RepT Φ T (xs[i]'h) ws ∧ ∀ (j : Nat) (v : Value), ws[j]? = some v → cells[i * T.size + j]? = some v
  | [], _, _, i, h => by simp at h
  | x :: xs, _, hr, i, h => by
    obtain ⟨v1, v2, rfl, h1, h2⟩ := hr
    have hl := h1.length
    cases i with
    | zero =>
      refine ⟨v1, h1, fun j v hj => ?_⟩
      have hj' : j < v1.length := (List.getElem?_eq_some_iff.1 hj).1
      rw [Nat.zero_mul, Nat.zero_add, List.getElem?_append_left hj']; exact hj
    | succ i =>
      obtain ⟨ws, hw, hc⟩ := RepL.get h2 i (by simpa using h)
      refine ⟨ws, hw, fun j v hj => ?_⟩
      rw [List.getElem?_append_right (by rw [hl, Nat.succ_mul]; omega), hl, show (i + 1) * T.size + j - T.size = i * T.size + j by rw [Nat.succ_mul]; omega]
      exact hc j v hj

theorem RepL.length {Φ : Nat → Option Obj} {T : Ty} : ∀ {xs : List T.D} {cells : List Value}, RepL Φ T xs cells → cells.length = xs.length * T.size
  | [], _, h => by have h : _ = [] := h; subst h; simp
  | x :: xs, _, h => by
    obtain ⟨v1, v2, rfl, h1, h2⟩ := h
    simp [h1.length, h2.length, Nat.succ_mul]; omega

/-- A cell of a frozen block. -/
theorem Inv0.cell_frz (h : Inv0 C Φ L H w) {b : Nat} {cs : Array Value} {t : TypeId} {fz : Nat × Nat} (hb : Φ b = some (.cells cs t fz)) (j : Nat) : w.cell? ⟨b, j, none⟩ = cs[j]? :=
  cell_of_row w b j cs t fz (h.frz _ _ hb)

/-- The cells of an element of a slice of frozen memory. -/
theorem Inv0.elem (h : Inv0 C Φ L H w) {T : Ty} {xs : List T.D} {b o n cap : Nat} (hr : RepT Φ (.sl T) xs [.slice (some ⟨b, o, none⟩) n cap]) (i : Nat) (hi : i < xs.length) :
    ∃ ws, RepT Φ T (xs[i]'hi) ws ∧ ∀ (j : Nat) (v : Value), ws[j]? = some v → w.cell? ⟨b, o + (i * T.size + j), none⟩ = some v := by
  obtain ⟨A, cap', hv, _, _, hx⟩ := hr
  simp at hv
  obtain ⟨rfl, rfl, rfl⟩ := hv
  rcases hx with hx | ⟨b', o', cs, t, fz, hA, hb, hx⟩
  · omega
  · simp at hA
    obtain ⟨rfl, rfl⟩ := hA
    obtain ⟨ws, h1, h2⟩ := hx i hi
    exact ⟨ws, h1, fun j v hj => by rw [h.cell_frz hb]; exact h2 j v hj⟩

/-- The cells of a variable of the call's own. -/
theorem Inv0.var (h : Inv0 C Φ L H w) {γ : Nat} {t : TypeId} {cs : List AV} (ho : H[γ]? = some (.cells t cs)) : ∃ g cap vs, L[γ]? = some (some (g, cap)) ∧ w.heap[g]? = some (.cells vs t (0, 0)) ∧ CVals Φ L cs vs.toList := by
  obtain ⟨l, hl, g, cap, vs, rfl, hg, hc⟩ := h.obj γ _ ho
  exact ⟨g, cap, vs, hl, hg, hc⟩

/-- The cells of an array of the call's own. -/
theorem Inv0.row (h : Inv0 C Φ L H w) {γ : Nat} {T : Ty} {e : TypeId} {xs : List T.D} (ho : H[γ]? = some (.arr T e xs)) : ∃ l cells, L[γ]? = some l ∧ w.ownsRow 0 e T.size (hdr l xs.length) xs.length cells ∧ RepL Φ T xs cells := by
  obtain ⟨l, hl, cells, h1, h2⟩ := h.obj γ _ ho
  exact ⟨l, cells, hl, h1, h2⟩

theorem Inv0.row_elem (h : Inv0 C Φ L H w) {γ : Nat} {T : Ty} {e : TypeId} {xs : List T.D} (ho : H[γ]? = some (.arr T e xs)) {g cap : Nat} (hl : L[γ]? = some (some (g, cap))) (i : Nat) (hi : i < xs.length) :
    ∃ ws, RepT Φ T (xs[i]'hi) ws ∧ ∀ (j : Nat) (v : Value), ws[j]? = some v → w.cell? ⟨g, i * T.size + j, none⟩ = some v := by
  obtain ⟨l, cells, hl', hown, hr⟩ := h.row ho
  rw [hl] at hl'; simp at hl'; subst hl'
  obtain ⟨ws, h1, h2⟩ := hr.get i hi
  refine ⟨ws, h1, fun j v hj => ?_⟩
  have := h2 j v hj
  rcases hown.2 with ⟨h0, _⟩ | ⟨g', cap', cur, hv, _, hg, _, _, _, htake⟩
  · simp [hdr] at h0
  · simp [hdr] at hv
    obtain ⟨rfl, rfl⟩ := hv
    rw [cell_of_row w g _ cur e (0, 0) hg]
    rw [← htake] at this
    rw [List.getElem?_take] at this
    split at this
    · simpa using this
    · cases this
end

/-! ### Loads -/

@[simp] def packV (agg : Bool) (vs : List Value) : Value :=
  if agg then .agg vs.toArray else vs.headD undef

def aggD : TypeDesc → Bool
  | .struct _ => true
  | .array _ _ => true
  | _ => false

theorem run_loadAt {P : Program} {w : World} {t : TypeId} {i : TypeInfo} {d : TypeDesc} (hi : P.info? t = some i) (hd : P.underlying t = some d) (b o : Nat) (ws : List Value)
    (hl : ws.length = i.size) (hc : ∀ (j : Nat) v, ws[j]? = some v → w.cell? ⟨b, o + j, none⟩ = some v) (h1 : aggD d = false → i.size = 1) :
    (Instr.loadAt t (.pointer (some ⟨b, o, none⟩))).run P w = .ok (packV (aggD d) ws) w := by
  have hall := run_loadCells_list (P := P) w ⟨b, o, none⟩ ws (fun j v hj => by rw [add_none]; exact hc j v hj)
  rw [hl] at hall
  have hag : (isAgg t).run P w = .ok (aggD d) w := by
    unfold isAgg
    simp [run_underlying hd]
    cases d <;> simp [aggD]
  simp only [Instr.loadAt, Instr.sureAddr, loadVar, Sem.run_bind, Sem.run_pure, Result.andThen_ok, hag, Sem.run_ite]
  by_cases h : aggD d = true
  · simp [sizeOf, typeInfo, hi, hall, h]
  · have h' : aggD d = false := by simpa using h
    have h1' := h1 h'
    rw [h1'] at hl
    match ws, hl with
    | [v], _ =>
      have := hc 0 v rfl
      simp at this
      simp [run_load, this, h']

theorem packV_ok {Φ : Nat → Option Obj} {L : Locs} {cs : List AV} {vs : List Value} (h : CVals Φ L cs vs) : CVal Φ L (.agg cs) (.agg vs.toArray) := by
  refine .agg cs _ (by simp [h.1]) (fun i v hv => ?_) (fun i c v hc hv => (h.2 i c v hc (by simpa using hv)).2)
  have hv' : vs[i]? = some v := by simpa using hv
  have hlt : i < vs.length := (List.getElem?_eq_some_iff.1 hv').1
  exact (h.2 i _ v (List.getElem?_eq_getElem (by rw [← h.1]; exact hlt)) hv').1

theorem CVals.sub {Φ : Nat → Option Obj} {L : Locs} {cs : List AV} {vs : List Value} (h : CVals Φ L cs vs) (off n : Nat) : CVals Φ L ((cs.drop off).take n) ((vs.drop off).take n) := by
  refine ⟨by simp [h.1], fun i c v hc hv => ?_⟩
  rw [List.getElem?_take] at hc hv
  split at hc
  · rename_i hlt
    rw [if_pos hlt] at hv
    rw [List.getElem?_drop] at hc hv
    exact h.2 _ c v hc hv
  · cases hc

/-! ### Data that own their memory -/
section
variable {C : Ctx} {Φ : Nat → Option Obj} {L : Locs} {H : List AObj} {w w' : World}

theorem mem_headB {l : Option (Nat × Nat)} {b : Nat} : b ∈ headB l ↔ ∃ cap, l = some (b, cap) := by
  cases l with
  | none => simp [headB]
  | some p => obtain ⟨g, c⟩ := p; simp [headB, eq_comm]

theorem LRep.mono {α : Type} {R R' : α → List Value → List Nat → Prop} : ∀ {xs : List α} {cs : List Value} {F : List Nat}, LRep R xs cs F → (∀ x vs G, (∀ b ∈ G, b ∈ F) → R x vs G → R' x vs G) → LRep R' xs cs F
  | [], _, _, h, _ => h
  | x :: xs, _, _, ⟨v1, v2, F1, F2, hc, hF, h1, h2⟩, hk => by
    subst hF
    exact ⟨v1, v2, F1, F2, hc, rfl, hk x v1 F1 (fun b hb => List.mem_append.2 (.inl hb)) h1, h2.mono fun x vs G hG => hk x vs G fun b hb => List.mem_append.2 (.inr (hG b hb))⟩

theorem RepO.keep {w w' : World} : ∀ {d : DT} {x : d.ty.D} {vs : List Value} {F : List Nat}, RepO w d x vs F → (∀ b ∈ F, w'.heap[b]? = w.heap[b]?) → RepO w' d x vs F
  | .leaf T, x, vs, F, h, hk => h
  | .pair a b, x, vs, F, ⟨v1, v2, F1, F2, hv, hF, h1, h2⟩, hk => by
    subst hF
    exact ⟨v1, v2, F1, F2, hv, rfl, h1.keep fun b hb => hk b (List.mem_append.2 (.inl hb)), h2.keep fun b hb => hk b (List.mem_append.2 (.inr hb))⟩
  | .sl e d, xs, vs, F, ⟨l, cells, F', hv, hF, hown, hr⟩, hk => by
    subst hF
    refine ⟨l, cells, F', hv, rfl, ownsRow_keep hown fun g hg _ => hk g (List.mem_append.2 (.inl (mem_headB.2 (own_hdr hg)))), LRep.mono hr fun x vs G hG hx => RepO.keep hx fun b hb => hk b (List.mem_append.2 (.inr (hG b hb)))⟩

theorem RepO.length {w : World} : ∀ {d : DT} {x : d.ty.D} {vs : List Value} {F : List Nat}, RepO w d x vs F → vs.length = d.ty.size
  | .leaf T, x, vs, F, ⟨_, _, h⟩ => RepT.length h
  | .pair a b, x, vs, F, ⟨v1, v2, F1, F2, hv, hF, h1, h2⟩ => by
    subst hv
    have e1 := h1.length
    have e2 := h2.length
    simp [e1, e2, DT.ty]
  | .sl e d, xs, vs, F, ⟨l, cells, F', hv, hF, hown, hr⟩ => by subst hv; rfl

theorem LRep.length {α : Type} {R : α → List Value → List Nat → Prop} {s : Nat} (hR : ∀ x v F, R x v F → v.length = s) : ∀ {xs : List α} {cs : List Value} {F : List Nat}, LRep R xs cs F → cs.length = xs.length * s
  | [], _, _, ⟨h, _⟩ => by subst h; simp
  | x :: xs, _, _, ⟨v1, v2, F1, F2, hc, hF, h1, h2⟩ => by
    subst hc
    rw [List.length_append, hR _ _ _ h1, LRep.length hR h2, List.length_cons, Nat.succ_mul]; omega

theorem LRep.append {α : Type} {R : α → List Value → List Nat → Prop} : ∀ {xs ys : List α} {cs ds : List Value} {F G : List Nat}, LRep R xs cs F → LRep R ys ds G → LRep R (xs ++ ys) (cs ++ ds) (F ++ G)
  | [], ys, _, ds, _, G, ⟨hc, hF⟩, k => by subst hc; subst hF; exact k
  | x :: xs, ys, _, ds, _, G, ⟨v1, v2, F1, F2, hc, hF, h1, h2⟩, k => by
    subst hc; subst hF
    exact ⟨v1, v2 ++ ds, F1, F2 ++ G, by simp, by simp, h1, h2.append k⟩

theorem LRep.split {α : Type} {R : α → List Value → List Nat → Prop} : ∀ {xs : List α} {cs : List Value} {F : List Nat}, LRep R xs cs F → ∀ (i : Nat) (h : i < xs.length),
    ∃ c1 c2 c3 F1 F2 F3, cs = c1 ++ c2 ++ c3 ∧ F = F1 ++ F2 ++ F3 ∧ LRep R (xs.take i) c1 F1 ∧ R (xs[i]'h) c2 F2 ∧ LRep R (xs.drop (i + 1)) c3 F3
  | [], _, _, _, i, h => by simp at h
  | x :: xs, _, _, ⟨v1, v2, G1, G2, hc, hF, h1, h2⟩, 0, h => by
    subst hc; subst hF
    exact ⟨[], v1, v2, [], G1, G2, by simp, by simp, ⟨rfl, rfl⟩, h1, h2⟩
  | x :: xs, _, _, ⟨v1, v2, G1, G2, hc, hF, h1, h2⟩, i + 1, h => by
    subst hc; subst hF
    obtain ⟨c1, c2, c3, F1, F2, F3, e1, e2, k1, k2, k3⟩ := h2.split i (by simpa using h)
    subst e1; subst e2
    exact ⟨v1 ++ c1, c2, c3, G1 ++ F1, F2, F3, by simp, by simp, ⟨v1, c1, G1, F1, rfl, rfl, h1, k1⟩, k2, k3⟩

theorem LRep.join {α : Type} {R : α → List Value → List Nat → Prop} {xs : List α} {i : Nat} (hi : i < xs.length) {y : α} {c1 c2 c3 : List Value} {F1 F2 F3 : List Nat} (h1 : LRep R (xs.take i) c1 F1) (h2 : R y c2 F2) (h3 : LRep R (xs.drop (i + 1)) c3 F3) :
    LRep R (xs.set i y) (c1 ++ c2 ++ c3) (F1 ++ F2 ++ F3) := by
  have e : xs.set i y = xs.take i ++ y :: xs.drop (i + 1) := List.set_eq_take_append_cons_drop .. |>.trans (if_pos hi)
  rw [e, List.append_assoc, List.append_assoc]
  exact h1.append ⟨c2, c3, F2, F3, rfl, rfl, h2, h3⟩

theorem LRep.take {α : Type} {R : α → List Value → List Nat → Prop} {s : Nat} (hR : ∀ x v F, R x v F → v.length = s) : ∀ {xs : List α} {cs : List Value} {F : List Nat}, LRep R xs cs F → ∀ n, ∃ G G', F = G ++ G' ∧ LRep R (xs.take n) (cs.take (n * s)) G
  | [], _, _, ⟨h, h'⟩, n => ⟨[], [], by simp [h'], by simp [h, LRep]⟩
  | x :: xs, cs, F, h, 0 => ⟨[], F, rfl, by simp [LRep]⟩
  | x :: xs, _, _, ⟨v1, v2, F1, F2, hc, hF, h1, h2⟩, n + 1 => by
    subst hc; subst hF
    obtain ⟨G, G', e, k⟩ := h2.take hR n
    subst e
    refine ⟨F1 ++ G, G', by simp, v1, v2.take (n * s), F1, G, ?_, rfl, h1, k⟩
    rw [Nat.succ_mul, Nat.add_comm, ← hR _ _ _ h1, List.take_length_add_append]

/-- Objects that own no memory behind their own block. -/
def AObj.flat : AObj → Bool
  | .deep .. => false
  | .ope .. => false
  | _ => true

theorem Dp.flat {o : AObj} (ho : o.flat = true) {l : Option (Nat × Nat)} {F : List Nat} : Dp Φ L w l F o ↔ F = [] := by
  cases o <;> first | (cases ho; done) | exact Iff.rfl

theorem Dp.keep {l : Option (Nat × Nat)} {F : List Nat} {o : AObj} (h : Dp Φ L w l F o) (hk : ∀ b ∈ F, w'.heap[b]? = w.heap[b]?) (hh : ∀ g cap, l = some (g, cap) → g < w.heap.size → w'.heap[g]? = w.heap[g]?) : Dp Φ L w' l F o := by
  cases o with
  | deep d e xs =>
    obtain ⟨cells, h1, h2⟩ := h
    exact ⟨cells, ownsRow_keep h1 fun g hg hlt => by obtain ⟨c, rfl⟩ := own_hdr hg; exact hh g c rfl hlt, h2.mono fun x vs G hG hx => hx.keep fun b hb => hk b (hG b hb)⟩
  | ope d e xs i ws =>
    obtain ⟨c1, c2, c3, F1, F2, hi, h1, h2, h3, h4, h5, hF⟩ := h
    subst hF
    exact ⟨c1, c2, c3, F1, F2, hi, ownsRow_keep h1 fun g hg hlt => by obtain ⟨c, rfl⟩ := own_hdr hg; exact hh g c rfl hlt,
      h2.mono fun x vs G hG hx => hx.keep fun b hb => hk b (List.mem_append.2 (.inl (hG b hb))), h3, h4, h5.mono fun x vs G hG hx => hx.keep fun b hb => hk b (List.mem_append.2 (.inr (hG b hb))), rfl⟩
  | _ => exact h

theorem CVals.mono {Φ' : Nat → Option Obj} {L' : Locs} (hm : More Φ Φ') (hL : ∀ (i : Nat) x, L[i]? = some x → L'[i]? = some x) {cs : List AV} {vs : List Value} (h : CVals Φ L cs vs) : CVals Φ' L' cs vs :=
  ⟨h.1, fun i c v h1 h2 => ⟨(h.2 i c v h1 h2).1, (h.2 i c v h1 h2).2.mono hm hL⟩⟩

theorem Dp.more {Φ' : Nat → Option Obj} {L' : Locs} (hm : More Φ Φ') (hL : ∀ (i : Nat) x, L[i]? = some x → L'[i]? = some x) {l : Option (Nat × Nat)} {F : List Nat} {o : AObj} (h : Dp Φ L w l F o) : Dp Φ' L' w l F o := by
  cases o with
  | deep d e xs => exact h
  | ope d e xs i ws =>
    obtain ⟨c1, c2, c3, F1, F2, hi, h1, h2, h3, h4, h5, hF⟩ := h
    exact ⟨c1, c2, c3, F1, F2, hi, h1, h2, h3.mono hm hL, h4, h5, hF⟩
  | _ => exact h

theorem InD.empty {F : Nat → List Nat} {γ : Nat} {o : AObj} (h : F γ = []) (ho : ∃ l, L[γ]? = some l ∧ Dp Φ L w l [] o) : InD C Φ L H w F γ o :=
  ⟨by rw [h]; exact ho, by simp [h], by simp [h], by simp [h], by simp [h], by simp [h], by simp [h]⟩

theorem Deep.below (h : Deep C Φ L H w) (hb : Below w.heap.size w w') : Deep C Φ L H w' := by
  obtain ⟨F, hF⟩ := h
  refine ⟨F, fun γ o ho hl => ?_⟩
  have k := hF γ o ho hl
  exact ⟨by obtain ⟨l, h1, h2⟩ := k.is; exact ⟨l, h1, h2.keep (fun b hb' => hb.block b (k.lt b hb')) fun g cap _ hlt => hb.block g hlt⟩, k.nd, fun b hb' => Nat.lt_of_lt_of_le (k.lt b hb') hb.size, k.fr, k.old, k.hd, k.dj⟩

theorem Inv.below (h : Inv C Φ L H w) (hb : Below w.heap.size w w') : Inv C Φ L H w' := ⟨h.toInv0.below hb, h.deep.below hb⟩

theorem InD.nil_of_flat {F : Nat → List Nat} {γ : Nat} {o : AObj} (k : InD C Φ L H w F γ o) (hf : o.flat = true) : F γ = [] := by
  obtain ⟨l, _, h2⟩ := k.is
  exact (Dp.flat hf).1 h2

/-- One name's object turned to another, with the same blocks behind it; its own block may have changed, or been frozen. -/
theorem Deep.updX {Φ' : Nat → Option Obj} (h : Inv0 C Φ L H w) {F : Nat → List Nat} (hF : ∀ (γ : Nat) o, H[γ]? = some o → o.live = true → InD C Φ L H w F γ o) {γ : Nat} {o o' : AObj} (hγ : H[γ]? = some o) (hlive : o.live = true)
    (hD : o'.live = true → ∀ l F, L[γ]? = some l → (∀ b ∈ F, b < w.heap.size ∧ ∀ cap, l ≠ some (b, cap)) → Dp Φ L w l F o → Dp Φ' L w' l F o')
    (hw : ∀ b, b < w.heap.size → (∀ cap, L[γ]? ≠ some (some (b, cap))) → w'.heap[b]? = w.heap[b]?) (hs : w.heap.size ≤ w'.heap.size)
    (hm : More Φ Φ') (hΦ : ∀ b, b < w.heap.size → Φ b = none → (∀ cap, L[γ]? ≠ some (some (b, cap))) → Φ' b = none) : ∀ (δ : Nat) x, (H.set γ o')[δ]? = some x → x.live = true → InD C Φ' L (H.set γ o') w' F δ x := by
  have hlt : γ < H.length := (List.getElem?_eq_some_iff.1 hγ).1
  have back : ∀ (δ : Nat) x, (H.set γ o')[δ]? = some x → x.live = true → ∃ y, H[δ]? = some y ∧ y.live = true ∧ ((δ = γ ∧ y = o ∧ x = o') ∨ (δ ≠ γ ∧ y = x)) := fun δ x hδ hx => by
    by_cases he : δ = γ
    · subst he
      rw [List.getElem?_set_self hlt] at hδ
      simp only [Option.some.injEq] at hδ; subst hδ
      exact ⟨o, hγ, hlive, .inl ⟨rfl, rfl, rfl⟩⟩
    · rw [List.getElem?_set_ne (Ne.symm he)] at hδ
      exact ⟨x, hδ, hx, .inr ⟨he, rfl⟩⟩
  intro δ x hδ hx
  obtain ⟨y, hy, hyl, hyx⟩ := back δ x hδ hx
  have k := hF δ y hy hyl
  have hne : ∀ b ∈ F δ, ∀ cap, L[γ]? ≠ some (some (b, cap)) := fun b hb cap e => k.hd b hb γ o cap hγ hlive e
  refine ⟨?_, k.nd, fun b hb => Nat.lt_of_lt_of_le (k.lt b hb) hs, fun b hb => hΦ b (k.lt b hb) (k.fr b hb) (hne b hb), k.old, fun b hb ε z cap hε hz hl => ?_, fun ε z hne' hε hz b hb hb' => ?_⟩
  · obtain ⟨l, h1, h2⟩ := k.is
    rcases hyx with ⟨rfl, rfl, rfl⟩ | ⟨he, rfl⟩
    · exact ⟨l, h1, hD hx l _ h1 (fun b hb => ⟨k.lt b hb, fun cap e => hne b hb cap (by rw [h1, e])⟩) h2⟩
    · refine ⟨l, h1, (h2.keep (fun b hb => hw b (k.lt b hb) (hne b hb)) fun g cap hg hlt => hw g hlt fun cap' e => ?_).more hm fun _ _ h => h⟩
      subst hg
      exact h.inj δ γ y o g cap cap' he hy hyl hγ hlive h1 e
  · obtain ⟨z', h1, h2, _⟩ := back ε z hε hz
    exact k.hd b hb ε z' cap h1 h2 hl
  · obtain ⟨z', h1, h2, _⟩ := back ε z hε hz
    exact k.dj ε z' hne' h1 h2 b hb hb'

theorem Deep.updF {Φ' : Nat → Option Obj} (h : Inv C Φ L H w) {γ : Nat} {o o' : AObj} (hγ : H[γ]? = some o) (hlive : o.live = true)
    (hD : o'.live = true → ∀ l F, L[γ]? = some l → (∀ b ∈ F, b < w.heap.size ∧ ∀ cap, l ≠ some (b, cap)) → Dp Φ L w l F o → Dp Φ' L w' l F o')
    (hw : ∀ b, b < w.heap.size → (∀ cap, L[γ]? ≠ some (some (b, cap))) → w'.heap[b]? = w.heap[b]?) (hs : w.heap.size ≤ w'.heap.size)
    (hm : More Φ Φ') (hΦ : ∀ b, b < w.heap.size → Φ b = none → (∀ cap, L[γ]? ≠ some (some (b, cap))) → Φ' b = none) : Deep C Φ' L (H.set γ o') w' := by
  obtain ⟨F, hF⟩ := h.deep
  exact ⟨F, Deep.updX h.toInv0 hF hγ hlive hD hw hs hm hΦ⟩

/-- One name's object turned to another without memory behind it; its own block may have changed, or been frozen. -/
theorem Deep.upd {Φ' : Nat → Option Obj} (h : Inv C Φ L H w) {γ : Nat} {o o' : AObj} (hγ : H[γ]? = some o) (hlive : o.live = true) (hfl : o.flat = true) (hfl' : o'.flat = true)
    (hw : ∀ b, b < w.heap.size → (∀ cap, L[γ]? ≠ some (some (b, cap))) → w'.heap[b]? = w.heap[b]?) (hs : w.heap.size ≤ w'.heap.size)
    (hm : More Φ Φ') (hΦ : ∀ b, b < w.heap.size → Φ b = none → (∀ cap, L[γ]? ≠ some (some (b, cap))) → Φ' b = none) : Deep C Φ' L (H.set γ o') w' :=
  Deep.updF h hγ hlive (fun _ l F _ _ hd => (Dp.flat hfl').2 ((Dp.flat hfl).1 hd)) hw hs hm hΦ

theorem ownsRow_cell {e : TypeId} {size n g cap : Nat} {cells : List Value} (h : w.ownsRow 0 e size (hdr (some (g, cap)) n) n cells) {k : Nat} {v : Value} (hk : cells[k]? = some v) : w.cell? ⟨g, k, none⟩ = some v := by
  rcases h.2 with ⟨h0, _⟩ | ⟨g', cap', cur, hv, _, hg, _, _, _, htake⟩
  · simp [hdr] at h0
  · simp only [hdr, Value.slice.injEq, Option.some.injEq, Addr.mk.injEq] at hv
    obtain ⟨⟨rfl, _⟩, _⟩ := hv
    rw [cell_of_row w g _ cur e (0, 0) hg]
    rw [← htake, List.getElem?_take] at hk
    split at hk
    · simpa using hk
    · cases hk

/-- The words of a datum that owns its memory: nothing is told of its slices. -/
@[simp] def flatD : (d : DT) → d.ty.D → List AV
  | .leaf T, x => _root_.Go.Proofs.Ythojapklndjidaa.flat T x
  | .pair a b, x => flatD a x.1 ++ flatD b x.2
  | .sl _ _, _ => [.any]
theorem flatD_length : ∀ (d : DT) (x : d.ty.D), (flatD d x).length = d.ty.size
  | .leaf T, x => flat_length T x
  | .pair a b, x => by simp [flatD_length a, flatD_length b]
  | .sl _ _, _ => rfl
theorem RepO.words : ∀ {d : DT} {x : d.ty.D} {vs : List Value} {F : List Nat}, RepO w d x vs F → CVals Φ L (flatD d x) vs
  | .leaf T, x, vs, F, ⟨_, hf, h⟩ => CVals.of_rep (RepT.flat hf h)
  | .pair a b, x, vs, F, ⟨v1, v2, F1, F2, hv, hF, h1, h2⟩ => by subst hv; exact h1.words.append h2.words
  | .sl e d, xs, vs, F, ⟨l, cells, F', hv, hF, hown, hr⟩ => by
    subst hv
    refine .cons ?_ (.any _) .nil
    cases l <;> rfl

theorem snoc_get {α : Type} {xs : List α} {x y : α} {i : Nat} (h : (xs ++ [x])[i]? = some y) : (i < xs.length ∧ xs[i]? = some y) ∨ (i = xs.length ∧ y = x) := by
  by_cases hi : i < xs.length
  · rw [List.getElem?_append_left hi] at h; exact .inl ⟨hi, h⟩
  · rw [List.getElem?_append_right (by omega)] at h
    have : i - xs.length = 0 := by
      have := (List.getElem?_eq_some_iff.1 h).1
      simp at this; omega
    rw [this] at h
    simp at h
    exact .inr ⟨by omega, h.symm⟩

def setF (F : Nat → List Nat) (n : Nat) (G : List Nat) (γ : Nat) : List Nat := if γ = n then G else F γ
theorem setF_self {F : Nat → List Nat} {n : Nat} {G : List Nat} : setF F n G n = G := if_pos rfl
theorem setF_ne {F : Nat → List Nat} {n γ : Nat} {G : List Nat} (h : γ ≠ n) : setF F n G γ = F γ := if_neg h

/-- A new name for a new object, with the blocks behind it. -/
theorem Deep.newF (hlen : L.length = H.length) {F : Nat → List Nat} (hF : ∀ (γ : Nat) o, H[γ]? = some o → o.live = true → InD C Φ L H w F γ o) {l : Option (Nat × Nat)} {o : AObj} {G : List Nat}
    (hD : o.live = true → Dp Φ (L ++ [l]) w l G o) (hnd : G.Nodup) (hG : ∀ b ∈ G, b < w.heap.size ∧ Φ b = none ∧ (C.w0.heap.size ≤ b ∨ b ∈ C.W) ∧ (∀ cap, l ≠ some (b, cap)) ∧
      ∀ (γ : Nat) o', H[γ]? = some o' → o'.live = true → b ∉ F γ ∧ ∀ cap, L[γ]? ≠ some (some (b, cap)))
    (hg : ∀ g cap, l = some (g, cap) → o.live = true → ∀ (γ : Nat) o', H[γ]? = some o' → o'.live = true → g ∉ F γ) : Deep C Φ (L ++ [l]) (H ++ [o]) w := by
  have hL : ∀ (i : Nat) x, L[i]? = some x → (L ++ [l])[i]? = some x := fun i x hx => by rw [List.getElem?_append_left (List.getElem?_eq_some_iff.1 hx).1]; exact hx
  have hLn : (L ++ [l])[H.length]? = some l := by rw [← hlen]; simp
  have hLo : ∀ (γ : Nat), γ < H.length → (L ++ [l])[γ]? = L[γ]? := fun γ hγ => List.getElem?_append_left (by omega)
  refine ⟨setF F H.length G, fun γ x hγ hx => ?_⟩
  rcases snoc_get hγ with ⟨hlt, hγ1⟩ | ⟨rfl, rfl⟩
  · have k := hF γ x hγ1 hx
    have e : setF F H.length G γ = F γ := setF_ne (by omega)
    refine ⟨?_, by rw [e]; exact k.nd, by rw [e]; exact k.lt, by rw [e]; exact k.fr, by rw [e]; exact k.old, ?_, ?_⟩
    · rw [e]
      obtain ⟨l', h1, h2⟩ := k.is
      exact ⟨l', hL _ _ h1, h2.more (More.refl _) hL⟩
    · rw [e]
      intro b hb δ y cap hδ hy hl
      rcases snoc_get hδ with ⟨hlt', hδ'⟩ | ⟨rfl, rfl⟩
      · rw [hLo δ hlt'] at hl; exact k.hd b hb δ y cap hδ' hy hl
      · rw [hLn] at hl; simp only [Option.some.injEq] at hl
        exact hg b cap hl hy γ x hγ1 hx hb
    · rw [e]
      intro δ y hne hδ hy b hb hb'
      rcases snoc_get hδ with ⟨hlt', hδ'⟩ | ⟨rfl, rfl⟩
      · rw [setF_ne (by omega)] at hb'
        exact k.dj δ y hne hδ' hy b hb hb'
      · rw [setF_self] at hb'
        exact ((hG b hb').2.2.2.2 γ x hγ1 hx).1 hb
  · have e : setF F H.length G H.length = G := setF_self
    refine ⟨⟨l, hLn, by rw [e]; exact hD hx⟩, by rw [e]; exact hnd, by rw [e]; exact fun b hb => (hG b hb).1, by rw [e]; exact fun b hb => (hG b hb).2.1, by rw [e]; exact fun b hb => (hG b hb).2.2.1, ?_, ?_⟩
    · rw [e]
      intro b hb δ y cap hδ hy hl
      rcases snoc_get hδ with ⟨hlt', hδ'⟩ | ⟨rfl, rfl⟩
      · rw [hLo δ hlt'] at hl; exact ((hG b hb).2.2.2.2 δ y hδ' hy).2 cap hl
      · rw [hLn] at hl; simp only [Option.some.injEq] at hl
        exact (hG b hb).2.2.2.1 cap hl
    · rw [e]
      intro δ y hne hδ hy b hb hb'
      rcases snoc_get hδ with ⟨hlt', hδ'⟩ | ⟨rfl, rfl⟩
      · rw [setF_ne (by omega)] at hb'
        exact ((hG b hb).2.2.2.2 δ y hδ' hy).1 hb'
      · exact absurd rfl hne

/-- An array is gone; its block, or a new one, belongs to a new name. -/
theorem Deep.move (h : Inv C Φ L H w) {β : Nat} {o o' : AObj} {l0 l : Option (Nat × Nat)} (hβ : H[β]? = some o) (hlive : o.live = true) (hl : L[β]? = some l0)
    (hw : ∀ b, b < w.heap.size → (∀ cap, l0 ≠ some (b, cap)) → w'.heap[b]? = w.heap[b]?) (hs : w.heap.size ≤ w'.heap.size) (hfl' : o'.flat = true)
    (hg : ∀ g cap, l = some (g, cap) → (∃ cap', l0 = some (g, cap')) ∨ w.heap.size ≤ g) : Deep C Φ (L ++ [l]) (H.set β .dead ++ [o']) w' := by
  obtain ⟨F, hF⟩ := h.deep
  have hlt : β < H.length := (List.getElem?_eq_some_iff.1 hβ).1
  have k := Deep.updX (o' := .dead) (w' := w') h.toInv0 hF hβ hlive (fun h => by cases h) (fun b hb hne => hw b hb fun cap e => hne cap (by rw [hl, e])) hs (More.refl _) fun _ _ h _ => h
  refine Deep.newF (by rw [List.length_set]; exact h.len) k (G := []) (fun _ => (Dp.flat hfl').2 rfl) List.nodup_nil (by simp) fun g cap hlg hx γ x hγ hxl hm => ?_
  have hγ' : H[γ]? = some x := by
    by_cases he : β = γ
    · subst he
      rw [List.getElem?_set_self hlt] at hγ
      simp only [Option.some.injEq] at hγ; subst hγ; cases hxl
    · rwa [List.getElem?_set_ne he] at hγ
  have kk := hF γ x hγ' hxl
  rcases hg g cap hlg with ⟨cap', e⟩ | e
  · subst e
    exact kk.hd g hm β o cap' hβ hlive hl
  · have := kk.lt g hm
    omega

theorem Deep.new (h : Inv C Φ L H w) (hb : Below w.heap.size w w') {l : Option (Nat × Nat)} {o : AObj} (hfl : o.flat = true) (hg : ∀ g cap, l = some (g, cap) → o.live = true → w.heap.size ≤ g) : Deep C Φ (L ++ [l]) (H ++ [o]) w' := by
  obtain ⟨F, hF⟩ := h.deep
  have hF' : ∀ (γ : Nat) o, H[γ]? = some o → o.live = true → InD C Φ L H w' F γ o := fun γ o ho hl => by
    have k := hF γ o ho hl
    exact ⟨by obtain ⟨l, h1, h2⟩ := k.is; exact ⟨l, h1, h2.keep (fun b hb' => hb.block b (k.lt b hb')) fun g cap _ hlt => hb.block g hlt⟩, k.nd, fun b hb' => Nat.lt_of_lt_of_le (k.lt b hb') hb.size, k.fr, k.old, k.hd, k.dj⟩
  refine Deep.newF h.len hF' (G := []) (fun _ => (Dp.flat hfl).2 rfl) List.nodup_nil (by simp) fun g cap hl hx γ o' hγ hx' hm => ?_
  have := (hF γ o' hγ hx').lt g hm
  have := hg g cap hl hx
  omega
end
end Go.Proofs.Ythojapklndjidaa
