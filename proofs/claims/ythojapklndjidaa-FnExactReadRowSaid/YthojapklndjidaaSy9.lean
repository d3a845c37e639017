/- Freezing, typed data out of words, contracts of functions. -/
import Derived.Test.YthojapklndjidaaSy8
namespace Go.Proofs.Ythojapklndjidaa
open Go Go.RowKit
set_option linter.unusedVariables false
set_option linter.all false

section
variable {P : Program} {C : Ctx} {Φ : Nat → Option Obj} {L : Locs} {H : List AObj} {w : World}

/-! ### An array of the call's own is let alone from now on -/

theorem RepT.of_row {T : Ty} {e : TypeId} {xs : List T.D} {l : Option (Nat × Nat)} {cells : List Value} (hown : w.ownsRow 0 e T.size (hdr l xs.length) xs.length cells) (hr : RepL Φ T xs cells)
    (hg : ∀ g cap, l = some (g, cap) → ∀ o, w.heap[g]? = some o → Φ g = some o) (n : Nat) (hn : n ≤ xs.length) : RepT Φ (.sl T) (xs.take n) [hdr l n] := by
  have hlen : (xs.take n).length = n := by simp; omega
  rcases hown.2 with ⟨h0, h1⟩ | ⟨g, cap, cur, hv, _, hh, hle, hm, hs, htake⟩
  · cases l with
    | some p => obtain ⟨a, b⟩ := p; simp [hdr] at h0
    | none =>
      have : n = 0 := by omega
      subst this
      exact ⟨none, 0, rfl, by simp, Nat.zero_le _, .inl (by simp)⟩
  · cases l with
    | none => simp [hdr] at hv
    | some p =>
      obtain ⟨a, b⟩ := p
      simp only [hdr, Value.slice.injEq, Option.some.injEq, Addr.mk.injEq] at hv
      obtain ⟨⟨rfl, _⟩, _, rfl⟩ := hv
      refine ⟨some ⟨a, 0, none⟩, b, by rw [hlen]; rfl, by rw [hlen]; omega, hm, .inr ⟨a, 0, cur, e, (0, 0), rfl, hg a b rfl _ hh, fun i hi => ?_⟩⟩
      rw [hlen] at hi
      obtain ⟨ws, h1, h2⟩ := hr.get i (by omega)
      refine ⟨ws, ?_, fun j v hj => ?_⟩
      · have : (xs.take n)[i]'(by rw [hlen]; exact hi) = xs[i]'(by omega) := by simp
        rw [this]; exact h1
      · have := h2 j v hj
        rw [← htake, List.getElem?_take] at this
        split at this
        · rw [Nat.zero_add]; simpa using this
        · cases this

theorem Inv0.freeze (h : Inv0 C Φ L H w) {β : Nat} {T : Ty} {e : TypeId} {xs : List T.D} (ho : H[β]? = some (.arr T e xs)) :
    ∃ Φ', More Φ Φ' ∧ (∀ b o, Φ' b = some o → Φ b = some o ∨ ∃ cap, L[β]? = some (some (b, cap))) ∧ Inv0 C Φ' L (H.set β (.frz T xs)) w ∧ ∀ n v, n ≤ xs.length → CVal Φ L (.osl β n) v → CVal Φ' L (.sl T (xs.take n)) v := by
  obtain ⟨l, cells, hl, hown, hr⟩ := h.row ho
  have hlt : β < H.length := (List.getElem?_eq_some_iff.1 ho).1
  -- the block, if there is one, is frozen
  have key : ∃ Φ' : Nat → Option Obj, More Φ Φ' ∧ (∀ b o, Φ' b = some o → w.heap[b]? = some o) ∧ (∀ g cap, l = some (g, cap) → ∀ o, w.heap[g]? = some o → Φ' g = some o) ∧ (∀ b o, Φ' b = some o → Φ b = some o ∨ ∃ cap, l = some (b, cap)) := by
    cases l with
    | none => exact ⟨Φ, More.refl _, h.frz, fun g cap hg => by simp at hg, fun b o hb => .inl hb⟩
    | some p =>
      obtain ⟨g, cap⟩ := p
      refine ⟨fun b => if b = g then w.heap[g]? else Φ b, fun b o hb => ?_, fun b o hb => ?_, fun g' cap' hg o hgo => ?_, fun b o hb => ?_⟩
      · by_cases hbg : b = g
        · have := (h.own β _ g cap ho rfl hl).1; subst hbg; rw [this] at hb; cases hb
        · simp [hbg, hb]
      · by_cases hbg : b = g
        · subst hbg; simpa using hb
        · simp [hbg] at hb; exact h.frz b o hb
      · simp only [Option.some.injEq, Prod.mk.injEq] at hg
        obtain ⟨rfl, rfl⟩ := hg
        simp [hgo]
      · by_cases hbg : b = g
        · subst hbg; exact .inr ⟨cap, rfl⟩
        · simp [hbg] at hb; exact .inl hb
  obtain ⟨Φ', hm, hf1, hf2, hf3⟩ := key
  refine ⟨Φ', hm, fun b o hb => (hf3 b o hb).imp id fun ⟨cap, e⟩ => ⟨cap, by rw [hl, e]⟩, ?_, fun n v hn hv => ?_⟩
  · constructor
    · simp [h.len]
    · exact hf1
    · exact h.base.trans hm
    · exact h.glob.more hm
    · intro b o hb
      rcases hf3 b o hb with hb' | ⟨cap, hlb⟩
      · exact h.fresh b o hb'
      · rw [hlb] at hl
        exact .inr (h.own β _ b cap ho rfl hl).2
    · exact h.os
    · exact h.tape
    · exact h.output
    · exact h.size
    · exact h.keep
    · intro γ o hγ
      by_cases hγβ : γ = β
      · subst hγβ
        rw [List.getElem?_set_self hlt] at hγ
        simp only [Option.some.injEq] at hγ; subst hγ
        have := RepT.of_row (Φ := Φ') hown (hr.more hm) hf2 xs.length (Nat.le_refl _)
        rw [List.take_length] at this
        exact ⟨l, hl, this⟩
      · rw [List.getElem?_set_ne (Ne.symm hγβ)] at hγ
        obtain ⟨l', hl', hk⟩ := h.obj γ o hγ
        exact ⟨l', hl', hk.more hm fun _ _ h => h⟩
    · intro γ o g cap hγ hlive hlg
      by_cases hγβ : γ = β
      · subst hγβ
        rw [List.getElem?_set_self hlt] at hγ
        simp only [Option.some.injEq] at hγ; subst hγ
        cases hlive
      · rw [List.getElem?_set_ne (Ne.symm hγβ)] at hγ
        refine ⟨?_, (h.own γ o g cap hγ hlive hlg).2⟩
        cases hΦ : Φ' g with
        | none => rfl
        | some o' =>
          rcases hf3 g o' hΦ with hb' | ⟨cap', hlb⟩
          · rw [(h.own γ o g cap hγ hlive hlg).1] at hb'; cases hb'
          · rw [hlb] at hl
            exact (h.inj γ β o _ g cap cap' hγβ hγ hlive ho rfl hlg hl).elim
    · intro γ δ o o' g cap cap' hne hγ hlo hδ hlo' h1 h2
      have hγβ : γ ≠ β := fun e => by
        subst e
        rw [List.getElem?_set_self hlt] at hγ
        simp only [Option.some.injEq] at hγ; subst hγ; cases hlo
      have hδβ : δ ≠ β := fun e => by
        subst e
        rw [List.getElem?_set_self hlt] at hδ
        simp only [Option.some.injEq] at hδ; subst hδ; cases hlo'
      rw [List.getElem?_set_ne (Ne.symm hγβ)] at hγ
      rw [List.getElem?_set_ne (Ne.symm hδβ)] at hδ
      exact h.inj γ δ o o' g cap cap' hne hγ hlo hδ hlo' h1 h2
    · exact h.pre
  · have hrep := RepT.of_row (Φ := Φ') hown (hr.more hm) hf2 n hn
    cases hv with
    | osl _ _ g cap hl' _ _ =>
      rw [hl] at hl'
      simp only [Option.some.injEq] at hl'; subst hl'
      exact .sl _ _ _ hrep
    | oslnil _ _ hl' h0 =>
      rw [hl] at hl'
      simp only [Option.some.injEq] at hl'; subst hl'
      exact .sl _ _ _ hrep

theorem Inv.freeze (h : Inv C Φ L H w) {β : Nat} {T : Ty} {e : TypeId} {xs : List T.D} (ho : H[β]? = some (.arr T e xs)) :
    ∃ Φ', More Φ Φ' ∧ Inv C Φ' L (H.set β (.frz T xs)) w ∧ ∀ n v, n ≤ xs.length → CVal Φ L (.osl β n) v → CVal Φ' L (.sl T (xs.take n)) v := by
  obtain ⟨Φ', hm, hn, h0, h1⟩ := h.toInv0.freeze ho
  refine ⟨Φ', hm, ⟨h0, Deep.upd h ho rfl rfl rfl (fun _ _ _ => rfl) (Nat.le_refl _) hm fun b hlt hb hne => ?_⟩, h1⟩
  cases hΦ : Φ' b with
  | none => rfl
  | some o =>
    rcases hn b o hΦ with e | ⟨cap, e⟩
    · rw [hb] at e; cases e
    · exact absurd e (hne cap)

/-- A datum that owns its memory, seen while nothing is written. -/
theorem LRep.toRepL {T : Ty} {R : T.D → List Value → List Nat → Prop} {Φ : Nat → Option Obj} (hR : ∀ x v F, R x v F → RepT Φ T x v) : ∀ {xs : List T.D} {cs : List Value} {F : List Nat}, LRep R xs cs F → RepL Φ T xs cs
  | [], _, _, ⟨h, _⟩ => h
  | x :: xs, _, _, ⟨v1, v2, F1, F2, hc, hF, h1, h2⟩ => ⟨v1, v2, hc, hR _ _ _ h1, h2.toRepL hR⟩

theorem RepO.rep : ∀ {d : DT} {x : d.ty.D} {vs : List Value} {F : List Nat}, RepO w d x vs F → RepT (fun b => w.heap[b]?) d.ty x vs
  | .leaf T, x, vs, F, ⟨_, hf, h⟩ => RepT.flat hf h
  | .pair a b, x, vs, F, ⟨v1, v2, F1, F2, hv, hF, h1, h2⟩ => ⟨v1, v2, hv, h1.rep, h2.rep⟩
  | .sl e d, xs, vs, F, ⟨l, cells, F', hv, hF, hown, hr⟩ => by
    subst hv
    have := RepT.of_row (Φ := fun b => w.heap[b]?) hown (LRep.toRepL (fun x v F h => RepO.rep h) hr) (fun g cap _ o ho => ho) xs.length (Nat.le_refl _)
    rwa [List.take_length] at this

theorem Inv0.frozen (h : Inv0 C Φ L H w) {β : Nat} {T : Ty} {xs : List T.D} (ho : H[β]? = some (.frz T xs)) : ∀ n v, n ≤ xs.length → CVal Φ L (.osl β n) v → CVal Φ L (.sl T (xs.take n)) v := by
  intro n v hn hv
  obtain ⟨l, hl, hr⟩ := h.obj β _ ho
  have key : RepT Φ (.sl T) (xs.take n) [hdr l n] := by
    have hr' : RepT Φ (.sl T) xs [hdr l xs.length] := hr
    cases l with
    | none =>
      obtain ⟨A, cap, hv', hlc, hm, hx⟩ := hr'
      simp only [hdr, List.cons.injEq, Value.slice.injEq, and_true] at hv'
      have : n = 0 := by omega
      subst this
      exact ⟨none, 0, rfl, by simp, Nat.zero_le _, .inl (by simp)⟩
    | some p =>
      obtain ⟨g, cap⟩ := p
      have := RepT.piece (l := 0) (h := n) hr' (Nat.zero_le _) hn
      simp only [List.drop_zero, Nat.sub_zero, Nat.zero_mul, Option.map_some, add_none, Nat.add_zero, ite_self] at this
      exact this
  cases hv with
  | osl _ _ g cap hl' _ _ =>
    rw [hl] at hl'
    simp only [Option.some.injEq] at hl'; subst hl'
    exact .sl _ _ _ key
  | oslnil _ _ hl' h0 =>
    rw [hl] at hl'
    simp only [Option.some.injEq] at hl'; subst hl'
    exact .sl _ _ _ key

/-- Words whose arrays are let alone from now on. -/
def solid1 (H : List AObj) : AV → Option (Prop × AV × List AObj)
  | .osl β n => match H[β]? with
    | some (.arr T _ xs) => some (n ≤ xs.length, .sl T (xs.take n), H.set β (.frz T xs))
    | some (.frz T xs) => some (n ≤ xs.length, .sl T (xs.take n), H)
    | _ => none
  | c => some (True, c, H)

def solid (H : List AObj) : List AV → Option (Prop × List AV × List AObj)
  | [] => some (True, [], H)
  | c :: cs => match solid1 H c with
    | none => none
    | some (p, c', H') => match solid H' cs with
      | none => none
      | some (q, cs', H'') => some (p ∧ q, c' :: cs', H'')

theorem solid1_ok (h : Inv C Φ L H w) {c c' : AV} {p : Prop} {H' : List AObj} (hs : solid1 H c = some (p, c', H')) (hp : p) : ∃ Φ', More Φ Φ' ∧ Inv C Φ' L H' w ∧ ∀ v, CVal Φ L c v → CVal Φ' L c' v := by
  unfold solid1 at hs
  split at hs
  · rename_i β n
    split at hs
    · rename_i T e xs ho
      simp only [Option.some.injEq, Prod.mk.injEq] at hs
      obtain ⟨rfl, rfl, rfl⟩ := hs
      obtain ⟨Φ', h1, h2, h3⟩ := h.freeze ho
      exact ⟨Φ', h1, h2, fun v hv => h3 n v hp hv⟩
    · rename_i T xs ho
      simp only [Option.some.injEq, Prod.mk.injEq] at hs
      obtain ⟨rfl, rfl, rfl⟩ := hs
      exact ⟨Φ, More.refl _, h, fun v hv => h.frozen ho n v hp hv⟩
    · cases hs
  · simp only [Option.some.injEq, Prod.mk.injEq] at hs
    obtain ⟨rfl, rfl, rfl⟩ := hs
    exact ⟨Φ, More.refl _, h, fun v hv => hv⟩

theorem solid_ok : ∀ {cs cs' : List AV} {Φ : Nat → Option Obj} {H : List AObj} {p : Prop} {H' : List AObj}, Inv C Φ L H w → solid H cs = some (p, cs', H') → p → ∃ Φ', More Φ Φ' ∧ Inv C Φ' L H' w ∧ ∀ vs, CVals Φ L cs vs → CVals Φ' L cs' vs
  | [], cs', Φ, H, p, H', h, hs, hp => by
    simp only [solid, Option.some.injEq, Prod.mk.injEq] at hs
    obtain ⟨rfl, rfl, rfl⟩ := hs
    exact ⟨Φ, More.refl _, h, fun vs hv => by rw [hv.inv_nil]; exact .nil⟩
  | c :: cs, cs', Φ, H, p, H', h, hs, hp => by
    simp only [solid] at hs
    split at hs
    · cases hs
    · rename_i p1 c1 H1 h1
      split at hs
      · cases hs
      · rename_i q cs1 H2 h2
        simp only [Option.some.injEq, Prod.mk.injEq] at hs
        obtain ⟨rfl, rfl, rfl⟩ := hs
        obtain ⟨Φ1, m1, i1, k1⟩ := solid1_ok h h1 hp.1
        obtain ⟨Φ2, m2, i2, k2⟩ := solid_ok i1 h2 hp.2
        refine ⟨Φ2, m1.trans m2, i2, fun vs hv => ?_⟩
        obtain ⟨v, ws, rfl, ho, hv1, hvs⟩ := hv.inv_cons
        refine .cons ho ((k1 v hv1).mono m2 fun _ _ h => h) (k2 ws ⟨hvs.1, fun i c v h1 h2 => ⟨(hvs.2 i c v h1 h2).1, (hvs.2 i c v h1 h2).2.mono m1 fun _ _ h => h⟩⟩)
end
end Go.Proofs.Ythojapklndjidaa
