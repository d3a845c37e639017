/- Data that own their memory: taken out of names, put behind others. -/
import Derived.Test.YthojapklndjidaaSy9
namespace Go.Proofs.Ythojapklndjidaa
open Go Go.RowKit
set_option linter.unusedVariables false
set_option linter.all false

section
variable {P : Program} {C : Ctx} {Φ : Nat → Option Obj} {L : Locs} {H : List AObj} {w : World}

theorem Inv0.recast' {H' : List AObj} (h : Inv0 C Φ L H w) (hl : H'.length = H.length) (hk : ∀ (i : Nat) o', H'[i]? = some o' → ∃ o, H[i]? = some o ∧ (o = o' ∨ o' = .dead)) : Inv0 C Φ L H' w where
  len := by rw [h.len, hl]
  frz := h.frz
  base := h.base
  glob := h.glob
  fresh := h.fresh
  os := h.os
  tape := h.tape
  output := h.output
  size := h.size
  keep := h.keep
  pre := h.pre
  obj γ o' ho := by
    obtain ⟨o, h1, h2⟩ := hk γ o' ho
    obtain ⟨l, hl, hk⟩ := h.obj γ o h1
    rcases h2 with rfl | rfl
    · exact ⟨l, hl, hk⟩
    · exact ⟨l, hl, trivial⟩
  own γ o' g cap ho hlv hlg := by
    obtain ⟨o, h1, h2⟩ := hk γ o' ho
    rcases h2 with rfl | rfl
    · exact h.own γ o g cap h1 hlv hlg
    · cases hlv
  inj γ δ o1 o2 g cap cap' hne h1 hl1 h2 hl2 e1 e2 := by
    obtain ⟨x, a1, a2⟩ := hk γ o1 h1
    obtain ⟨y, b1, b2⟩ := hk δ o2 h2
    rcases a2 with rfl | rfl
    · rcases b2 with rfl | rfl
      · exact h.inj γ δ x y g cap cap' hne a1 hl1 b1 hl2 e1 e2
      · cases hl2
    · cases hl1

theorem Deep.recast' {H' : List AObj} {F : Nat → List Nat} (hF : ∀ (γ : Nat) o, H[γ]? = some o → o.live = true → InD C Φ L H w F γ o) (hk : ∀ (i : Nat) o', H'[i]? = some o' → ∃ o, H[i]? = some o ∧ (o = o' ∨ o' = .dead)) :
    ∀ (γ : Nat) o, H'[γ]? = some o → o.live = true → InD C Φ L H' w F γ o := fun γ o ho hl => by
  have back : ∀ (δ : Nat) x, H'[δ]? = some x → x.live = true → H[δ]? = some x := fun δ x hx hlx => by
    obtain ⟨y, h1, h2⟩ := hk δ x hx
    rcases h2 with rfl | rfl
    · exact h1
    · cases hlx
  have k := hF γ o (back γ o ho hl) hl
  exact ⟨k.is, k.nd, k.lt, k.fr, k.old, fun b hb δ x cap hx hlx e => k.hd b hb δ x cap (back δ x hx hlx) hlx e, fun δ x hne hx hlx b hb => k.dj δ x hne (back δ x hx hlx) hlx b hb⟩

theorem Inv.recast' {H' : List AObj} (h : Inv C Φ L H w) (hl : H'.length = H.length) (hk : ∀ (i : Nat) o', H'[i]? = some o' → ∃ o, H[i]? = some o ∧ (o = o' ∨ o' = .dead)) : Inv C Φ L H' w := by
  obtain ⟨F, hF⟩ := h.deep
  exact ⟨h.toInv0.recast' hl hk, F, Deep.recast' hF hk⟩

theorem dead_back {β : Nat} : ∀ (i : Nat) o', (H.set β .dead)[i]? = some o' → ∃ o, H[i]? = some o ∧ (o = o' ∨ o' = .dead) := fun i o' h => by
  by_cases he : β = i
  · subst he
    have hlt : β < H.length := by
      have := (List.getElem?_eq_some_iff.1 h).1
      simpa using this
    rw [List.getElem?_set_self hlt] at h
    simp only [Option.some.injEq] at h
    exact ⟨_, List.getElem?_eq_getElem hlt, .inr h.symm⟩
  · rw [List.getElem?_set_ne he] at h
    exact ⟨o', h, .inl rfl⟩

/-- The object of one name turned, in its own block, with the same blocks behind it. -/
theorem Inv0.turn' (h : Inv0 C Φ L H w) {γ : Nat} {o o' : AObj} {g cap : Nat} (ho : H[γ]? = some o) (hlive : o.live = true) (hl : L[γ]? = some (some (g, cap))) {w' : World}
    (hw : ∀ k, k ≠ g → w'.heap[k]? = w.heap[k]?) (hs : w'.heap.size = w.heap.size) (hos : w'.os = w.os) (ht : w'.tape = w.tape) (hout : w'.output = w.output) (hk : ObjOk Φ L w' (some (g, cap)) o') :
    Inv0 C Φ L (H.set γ o') w' := by
  have hlt : γ < H.length := (List.getElem?_eq_some_iff.1 ho).1
  obtain ⟨hΦ, hB⟩ := h.own γ o g cap ho hlive hl
  constructor
  · simp [h.len]
  · intro b x hb
    rw [hw b (fun e => by subst e; rw [hΦ] at hb; cases hb)]; exact h.frz b x hb
  · exact h.base
  · exact h.glob
  · exact h.fresh
  · exact hos.trans h.os
  · exact ht.trans h.tape
  · exact hout.trans h.output
  · rw [hs]; exact h.size
  · intro b hlt hW
    rw [hw b (fun e => by subst e; rcases hB with hB | hB; omega; exact hW hB)]; exact h.keep b hlt hW
  · intro δ x hδ
    by_cases he : δ = γ
    · subst he
      rw [List.getElem?_set_self hlt] at hδ
      simp only [Option.some.injEq] at hδ; subst hδ
      exact ⟨_, hl, hk⟩
    · rw [List.getElem?_set_ne (Ne.symm he)] at hδ
      obtain ⟨l, hl', hk'⟩ := h.obj δ x hδ
      refine ⟨l, hl', hk'.keep fun g' cap' hlv hlg hlt' => hw g' fun e => ?_⟩
      subst e
      subst hlg
      exact h.inj δ γ x o g' cap' cap he hδ hlv ho hlive hl' hl
  · intro δ x g' cap' hδ hlv hlg
    by_cases he : δ = γ
    · subst he; exact h.own δ o g' cap' ho hlive hlg
    · rw [List.getElem?_set_ne (Ne.symm he)] at hδ
      exact h.own δ x g' cap' hδ hlv hlg
  · intro δ ε x y g' c1 c2 hne hδ hlx hε hly e1 e2
    have back : ∀ (ζ : Nat) z, (H.set γ o')[ζ]? = some z → z.live = true → ∃ z', H[ζ]? = some z' ∧ z'.live = true := fun ζ z hz hlz => by
      by_cases he : ζ = γ
      · subst he; exact ⟨o, ho, hlive⟩
      · rw [List.getElem?_set_ne (Ne.symm he)] at hz; exact ⟨z, hz, hlz⟩
    obtain ⟨x', hx', hlx'⟩ := back δ x hδ hlx
    obtain ⟨y', hy', hly'⟩ := back ε y hε hly
    exact h.inj δ ε x' y' g' c1 c2 hne hx' hlx' hy' hly' e1 e2
  · exact h.pre

/-! ### Blocks that belong to no name -/

structure Det (C : Ctx) (Φ : Nat → Option Obj) (L : Locs) (H : List AObj) (w : World) (F : Nat → List Nat) (G : List Nat) : Prop where
  ind : ∀ (γ : Nat) o, H[γ]? = some o → o.live = true → InD C Φ L H w F γ o
  nd : G.Nodup
  ok : ∀ b ∈ G, b < w.heap.size ∧ Φ b = none ∧ (C.w0.heap.size ≤ b ∨ b ∈ C.W) ∧ ∀ (γ : Nat) o, H[γ]? = some o → o.live = true → b ∉ F γ ∧ ∀ cap, L[γ]? ≠ some (some (b, cap))

/-- What lies behind a name is taken out; the name is gone. -/
theorem Det.take (hI : Inv0 C Φ L H w) {F : Nat → List Nat} {G : List Nat} (h : Det C Φ L H w F G) {β : Nat} {o : AObj} {l : Option (Nat × Nat)} (ho : H[β]? = some o) (hlive : o.live = true) (hl : L[β]? = some l) :
    Det C Φ L (H.set β .dead) w F (G ++ (headB l ++ F β)) := by
  have k := h.ind β o ho hlive
  have hlt : β < H.length := (List.getElem?_eq_some_iff.1 ho).1
  have back : ∀ (δ : Nat) x, (H.set β .dead)[δ]? = some x → x.live = true → H[δ]? = some x ∧ δ ≠ β := fun δ x hx hlx => by
    by_cases he : β = δ
    · subst he
      rw [List.getElem?_set_self hlt] at hx
      simp only [Option.some.injEq] at hx; subst hx; cases hlx
    · rw [List.getElem?_set_ne he] at hx; exact ⟨hx, fun e => he e.symm⟩
  refine ⟨Deep.recast' h.ind dead_back, ?_, fun b hb => ?_⟩
  · rw [List.nodup_append]
    refine ⟨h.nd, ?_, fun a ha b hb e => ?_⟩
    · rw [List.nodup_append]
      refine ⟨?_, k.nd, fun a ha b hb e => ?_⟩
      · cases l with
        | none => exact List.nodup_nil
        | some p => simp [headB]
      · subst e
        obtain ⟨cap, rfl⟩ := mem_headB.1 ha
        exact k.hd a hb β o cap ho hlive hl
    · subst e
      have := (h.ok a ha).2.2.2 β o ho hlive
      rcases List.mem_append.1 hb with hb | hb
      · obtain ⟨cap, rfl⟩ := mem_headB.1 hb
        exact this.2 cap hl
      · exact this.1 hb
  · rcases List.mem_append.1 hb with hb | hb
    · obtain ⟨h1, h2, h3, h4⟩ := h.ok b hb
      exact ⟨h1, h2, h3, fun γ x hx hlx => h4 γ x (back γ x hx hlx).1 hlx⟩
    · rcases List.mem_append.1 hb with hb | hb
      · obtain ⟨cap, rfl⟩ := mem_headB.1 hb
        obtain ⟨h2, h3⟩ := hI.own β o b cap ho hlive hl
        refine ⟨hI.lt ho hlive hl, h2, h3, fun γ x hx hlx => ?_⟩
        obtain ⟨hx', hne⟩ := back γ x hx hlx
        exact ⟨fun hm => (h.ind γ x hx' hlx).hd b hm β o cap ho hlive hl, fun cap' e => hI.inj γ β x o b cap' cap hne hx' hlx ho hlive e hl⟩
      · refine ⟨k.lt b hb, k.fr b hb, k.old b hb, fun γ x hx hlx => ?_⟩
        obtain ⟨hx', hne⟩ := back γ x hx hlx
        exact ⟨k.dj γ x hne hx' hlx b hb, fun cap e => k.hd b hb γ x cap hx' hlx e⟩

def castD {d d' : DT} (h : d' = d) (xs : List d'.ty.D) : List d.ty.D := cast (congrArg (fun e => List (Ty.D (DT.ty e))) h) xs
@[simp] theorem castD_rfl {d : DT} (h : d = d) (xs : List d.ty.D) : castD h xs = xs := rfl
def castE {T : Ty} {d : DT} (h : T = d.ty) (xs : List T.D) : List d.ty.D := cast (congrArg (fun e => List (Ty.D e)) h) xs
@[simp] theorem castE_rfl {d : DT} (h : d.ty = d.ty) (xs : List d.ty.D) : castE h xs = xs := rfl

@[simp] def DT.plain : DT → Bool
  | .leaf T => flatTy T
  | _ => false

/-- A slice of the call's own, whole, given away. -/
def absorb1 (H : List AObj) (e : TypeId) (d : DT) : AV → Option (Prop × List d.ty.D × List AObj)
  | .osl β n => match H[β]? with
    | some (.arr T e' xs) => if h : T = d.ty then if e' = e ∧ d.plain = true then some (n = xs.length, castE h xs, H.set β .dead) else none else none
    | some (.deep d' e' xs) => if h : d' = d then if e' = e then some (n = xs.length, castD h xs, H.set β .dead) else none else none
    | _ => none
  | .nilsl => some (True, [], H)
  | _ => none

def absorb : List AObj → (d : DT) → List AV → Option (Prop × d.ty.D × List AV × List AObj)
  | H, .leaf T, cs => if flatTy T = true then match unflat T cs with
    | some (x, r) => some (True, x, r, H)
    | none => none
    else none
  | H, .pair a b, cs => match absorb H a cs with
    | some (p, x, r, H1) => match absorb H1 b r with
      | some (q, y, r', H2) => some (p ∧ q, (x, y), r', H2)
      | none => none
    | none => none
  | H, .sl e d, c :: cs => match absorb1 H e d c with
    | some (p, xs, H1) => some (p, xs, cs, H1)
    | none => none
  | _, .sl _ _, [] => none

theorem LRep.of_flat {T : Ty} (hf : flatTy T = true) : ∀ {xs : List T.D} {cs : List Value}, RepL Φ T xs cs → LRep (RepO w (.leaf T)) xs cs []
  | [], _, h => ⟨h, rfl⟩
  | x :: xs, _, ⟨v1, v2, hc, h1, h2⟩ => ⟨v1, v2, [], [], hc, rfl, ⟨rfl, hf, RepT.flat hf h1⟩, LRep.of_flat hf h2⟩

theorem absorb1_ok (hI : Inv0 C Φ L H w) {F : Nat → List Nat} {G : List Nat} (h : Det C Φ L H w F G) {e : TypeId} {d : DT} {c : AV} {p : Prop} {xs : List d.ty.D} {H' : List AObj} (hs : absorb1 H e d c = some (p, xs, H')) (hp : p) {v : Value} (hv : CVal Φ L c v) :
    ∃ G', RepO w (.sl e d) xs [v] G' ∧ Inv0 C Φ L H' w ∧ Det C Φ L H' w F (G ++ G') := by
  unfold absorb1 at hs
  split at hs
  · rename_i β n
    split at hs
    · rename_i T e' ys ho
      split at hs
      · rename_i hT; subst hT
        split at hs
        · rename_i hc
          obtain ⟨rfl, hpl⟩ := hc
          simp only [Option.some.injEq, Prod.mk.injEq, castE_rfl] at hs
          obtain ⟨rfl, rfl, rfl⟩ := hs
          subst hp
          obtain ⟨T, rfl⟩ : ∃ T, d = .leaf T := by cases d <;> first | exact ⟨_, rfl⟩ | cases hpl
          obtain ⟨l, cells, hl, hown, hr⟩ := hI.row ho
          have hF := (h.ind β _ ho rfl).nil_of_flat rfl
          have hvh : v = hdr l ys.length := by
            cases hv with
            | osl _ _ g cap h1 _ _ => rw [hl] at h1; simp only [Option.some.injEq] at h1; subst h1; rfl
            | oslnil _ _ h1 h2 => rw [hl] at h1; simp only [Option.some.injEq] at h1; subst h1; rfl
          subst hvh
          refine ⟨headB l ++ F β, ⟨l, cells, F β, rfl, rfl, hown, by rw [hF]; exact LRep.of_flat hpl hr⟩, hI.recast' (by simp) dead_back, h.take hI ho rfl hl⟩
        · cases hs
      · cases hs
    · rename_i d' e' ys ho
      split at hs
      · rename_i hd; subst hd
        split at hs
        · rename_i he; subst he
          simp only [Option.some.injEq, Prod.mk.injEq, castD_rfl] at hs
          obtain ⟨rfl, rfl, rfl⟩ := hs
          subst hp
          obtain ⟨l, hl, cells, hown, hr⟩ := (h.ind β _ ho rfl).is
          have hvh : v = hdr l ys.length := by
            cases hv with
            | osl _ _ g cap h1 _ _ => rw [hl] at h1; simp only [Option.some.injEq] at h1; subst h1; rfl
            | oslnil _ _ h1 h2 => rw [hl] at h1; simp only [Option.some.injEq] at h1; subst h1; rfl
          subst hvh
          refine ⟨headB l ++ F β, ⟨l, cells, F β, rfl, rfl, hown, hr⟩, hI.recast' (by simp) dead_back, h.take hI ho rfl hl⟩
        · cases hs
      · cases hs
    · cases hs
  · simp only [Option.some.injEq, Prod.mk.injEq] at hs
    obtain ⟨rfl, rfl, rfl⟩ := hs
    cases hv
    refine ⟨[], ⟨none, [], [], rfl, rfl, World.ownsRow_nil w 0 e d.ty.size, rfl, rfl⟩, hI, by simpa using h⟩
  · cases hs

theorem absorb_ok {F : Nat → List Nat} : ∀ {d : DT} {H : List AObj} {G : List Nat} {cs r : List AV} {p : Prop} {x : d.ty.D} {H' : List AObj}, Inv0 C Φ L H w → Det C Φ L H w F G → absorb H d cs = some (p, x, r, H') → p → ∀ {vs : List Value}, CVals Φ L cs vs →
    ∃ v1 v2 G', vs = v1 ++ v2 ∧ RepO w d x v1 G' ∧ CVals Φ L r v2 ∧ Inv0 C Φ L H' w ∧ Det C Φ L H' w F (G ++ G')
  | .leaf T, H, G, cs, r, p, x, H', hI, h, hs, hp, vs, hv => by
    unfold absorb at hs
    split at hs
    · rename_i hf
      split at hs
      · rename_i x' r' hu
        simp only [Option.some.injEq, Prod.mk.injEq] at hs
        obtain ⟨rfl, rfl, rfl, rfl⟩ := hs
        obtain ⟨v1, v2, rfl, h1, h2⟩ := unflat_ok hu hv
        exact ⟨v1, v2, [], rfl, ⟨rfl, hf, RepT.flat hf h1⟩, h2, hI, by simpa using h⟩
      · cases hs
    · cases hs
  | .pair a b, H, G, cs, r, p, x, H', hI, h, hs, hp, vs, hv => by
    unfold absorb at hs
    split at hs
    · rename_i p1 x1 r1 H1 h1
      split at hs
      · rename_i q y r2 H2 h2
        simp only [Option.some.injEq, Prod.mk.injEq] at hs
        obtain ⟨rfl, rfl, rfl, rfl⟩ := hs
        obtain ⟨v1, v2, G1, rfl, a1, a2, a3, a4⟩ := absorb_ok hI h h1 hp.1 hv
        obtain ⟨v3, v4, G2, rfl, b1, b2, b3, b4⟩ := absorb_ok a3 a4 h2 hp.2 a2
        exact ⟨v1 ++ v3, v4, G1 ++ G2, by simp, ⟨v1, v3, G1, G2, rfl, rfl, a1, b1⟩, b2, b3, by rwa [← List.append_assoc]⟩
      · cases hs
    · cases hs
  | .sl e d, H, G, c :: cs, r, p, x, H', hI, h, hs, hp, vs, hv => by
    unfold absorb at hs
    split at hs
    · rename_i p1 xs H1 h1
      simp only [Option.some.injEq, Prod.mk.injEq] at hs
      obtain ⟨rfl, rfl, rfl, rfl⟩ := hs
      obtain ⟨v, ws, rfl, _, hv1, hvs⟩ := hv.inv_cons
      obtain ⟨G', a1, a2, a3⟩ := absorb1_ok hI h h1 hp hv1
      exact ⟨[v], ws, G', rfl, a1, hvs, a2, a3⟩
    · cases hs
  | .sl e d, H, G, [], r, p, x, H', hI, h, hs, hp, vs, hv => by simp [absorb] at hs

theorem absorb1_keep {e : TypeId} {d : DT} {c : AV} {p : Prop} {xs : List d.ty.D} {H' : List AObj} (hs : absorb1 H e d c = some (p, xs, H')) : H'.length = H.length ∧ ∀ (i : Nat) o', H'[i]? = some o' → ∃ o, H[i]? = some o ∧ (o = o' ∨ o' = .dead) := by
  unfold absorb1 at hs
  split at hs
  · split at hs
    · split at hs
      · split at hs
        · simp only [Option.some.injEq, Prod.mk.injEq] at hs
          obtain ⟨_, _, rfl⟩ := hs
          exact ⟨by simp, dead_back⟩
        · cases hs
      · cases hs
    · split at hs
      · split at hs
        · simp only [Option.some.injEq, Prod.mk.injEq] at hs
          obtain ⟨_, _, rfl⟩ := hs
          exact ⟨by simp, dead_back⟩
        · cases hs
      · cases hs
    · cases hs
  · simp only [Option.some.injEq, Prod.mk.injEq] at hs
    obtain ⟨_, _, rfl⟩ := hs
    exact ⟨rfl, fun i o' h => ⟨o', h, .inl rfl⟩⟩
  · cases hs

theorem absorb_keep : ∀ {d : DT} {H : List AObj} {cs r : List AV} {p : Prop} {x : d.ty.D} {H' : List AObj}, absorb H d cs = some (p, x, r, H') → H'.length = H.length ∧ ∀ (i : Nat) o', H'[i]? = some o' → ∃ o, H[i]? = some o ∧ (o = o' ∨ o' = .dead)
  | .leaf T, H, cs, r, p, x, H', hs => by
    unfold absorb at hs
    split at hs
    · split at hs
      · simp only [Option.some.injEq, Prod.mk.injEq] at hs
        obtain ⟨_, _, _, rfl⟩ := hs
        exact ⟨rfl, fun i o' h => ⟨o', h, .inl rfl⟩⟩
      · cases hs
    · cases hs
  | .pair a b, H, cs, r, p, x, H', hs => by
    unfold absorb at hs
    split at hs
    · rename_i h1
      split at hs
      · rename_i h2
        simp only [Option.some.injEq, Prod.mk.injEq] at hs
        obtain ⟨_, _, _, rfl⟩ := hs
        obtain ⟨a1, a2⟩ := absorb_keep h1
        obtain ⟨b1, b2⟩ := absorb_keep h2
        refine ⟨by omega, fun i o' h => ?_⟩
        obtain ⟨o1, c1, c2⟩ := b2 i o' h
        rcases c2 with rfl | rfl
        · exact a2 i o1 c1
        · obtain ⟨o, d1, _⟩ := a2 i o1 c1
          exact ⟨o, d1, .inr rfl⟩
      · cases hs
    · cases hs
  | .sl e d, H, c :: cs, r, p, x, H', hs => by
    unfold absorb at hs
    split at hs
    · rename_i h1
      simp only [Option.some.injEq, Prod.mk.injEq] at hs
      obtain ⟨_, _, _, rfl⟩ := hs
      exact absorb1_keep h1
    · cases hs
  | .sl e d, H, [], r, p, x, H', hs => by simp [absorb] at hs

def isDeep : Option AObj → Bool
  | some (.deep ..) => true
  | _ => false

theorem Det.of_deep {F : Nat → List Nat} (hF : ∀ (γ : Nat) o, H[γ]? = some o → o.live = true → InD C Φ L H w F γ o) : Det C Φ L H w F [] := ⟨hF, List.nodup_nil, by simp⟩

/-- A name's object turned: behind it some of what lay behind it, some of what belonged to no name. -/
theorem Det.put (hI : Inv0 C Φ L H w) {F : Nat → List Nat} {G : List Nat} (h : Det C Φ L H w F G) {β : Nat} {o o' : AObj} {l : Option (Nat × Nat)} {w' : World} (hβ : H[β]? = some o) (hlive : o.live = true) (hl : L[β]? = some l)
    (hw : ∀ b, b < w.heap.size → (∀ cap, l ≠ some (b, cap)) → w'.heap[b]? = w.heap[b]?) (hs : w.heap.size ≤ w'.heap.size) {G1 : List Nat} (hsub : ∀ b ∈ G1, b ∈ F β ∨ b ∈ G) (hnd : G1.Nodup) (hD : o'.live = true → Dp Φ L w' l G1 o') : Deep C Φ L (H.set β o') w' := by
  have hlt : β < H.length := (List.getElem?_eq_some_iff.1 hβ).1
  have back : ∀ (δ : Nat) x, (H.set β o')[δ]? = some x → x.live = true → ∃ y, H[δ]? = some y ∧ y.live = true ∧ ((δ = β ∧ y = o ∧ x = o') ∨ (δ ≠ β ∧ y = x)) := fun δ x hδ hx => by
    by_cases he : δ = β
    · subst he
      rw [List.getElem?_set_self hlt] at hδ
      simp only [Option.some.injEq] at hδ; subst hδ
      exact ⟨o, hβ, hlive, .inl ⟨rfl, rfl, rfl⟩⟩
    · rw [List.getElem?_set_ne (Ne.symm he)] at hδ
      exact ⟨x, hδ, hx, .inr ⟨he, rfl⟩⟩
  have kβ := h.ind β o hβ hlive
  refine ⟨setF F β G1, fun δ x hδ hx => ?_⟩
  obtain ⟨y, hy, hyl, hyx⟩ := back δ x hδ hx
  have k := h.ind δ y hy hyl
  rcases hyx with ⟨rfl, rfl, rfl⟩ | ⟨he, rfl⟩
  · have prop : ∀ b ∈ G1, b < w.heap.size ∧ Φ b = none ∧ (C.w0.heap.size ≤ b ∨ b ∈ C.W) ∧ (∀ (γ : Nat) z cap, H[γ]? = some z → z.live = true → L[γ]? ≠ some (some (b, cap))) ∧ ∀ (γ : Nat) z, γ ≠ δ → H[γ]? = some z → z.live = true → b ∉ F γ := fun b hb => by
      rcases hsub b hb with hb | hb
      · exact ⟨k.lt b hb, k.fr b hb, k.old b hb, fun γ z cap hz hzl e => k.hd b hb γ z cap hz hzl e, fun γ z hne hz hzl => k.dj γ z hne hz hzl b hb⟩
      · obtain ⟨a1, a2, a3, a4⟩ := h.ok b hb
        exact ⟨a1, a2, a3, fun γ z cap hz hzl e => (a4 γ z hz hzl).2 cap e, fun γ z _ hz hzl => (a4 γ z hz hzl).1⟩
    refine ⟨⟨l, hl, by rw [setF_self]; exact hD hx⟩, ?_, ?_, ?_, ?_, ?_, ?_⟩ <;> rw [setF_self]
    · exact hnd
    · exact fun b hb => Nat.lt_of_lt_of_le (prop b hb).1 hs
    · exact fun b hb => (prop b hb).2.1
    · exact fun b hb => (prop b hb).2.2.1
    · intro b hb ε z cap hε hz e
      obtain ⟨z', h1, h2, _⟩ := back ε z hε hz
      exact (prop b hb).2.2.2.1 ε z' cap h1 h2 e
    · intro ε z hne hε hz b hb hb'
      obtain ⟨z', h1, h2, _⟩ := back ε z hε hz
      rw [setF_ne hne] at hb'
      exact (prop b hb).2.2.2.2 ε z' hne h1 h2 hb'
  · refine ⟨?_, ?_, ?_, ?_, ?_, ?_, ?_⟩ <;> rw [setF_ne he]
    · obtain ⟨l', h1, h2⟩ := k.is
      refine ⟨l', h1, h2.keep (fun b hb => hw b (k.lt b hb) fun cap e => k.hd b hb β o cap hβ hlive (by rw [hl, e])) fun g cap hg hlt => hw g hlt fun cap' e => ?_⟩
      subst hg; subst e
      exact hI.inj δ β y o g cap cap' he hy hyl hβ hlive h1 hl
    · exact k.nd
    · exact fun b hb => Nat.lt_of_lt_of_le (k.lt b hb) hs
    · exact k.fr
    · exact k.old
    · intro b hb ε z cap hε hz e
      obtain ⟨z', h1, h2, _⟩ := back ε z hε hz
      exact k.hd b hb ε z' cap h1 h2 e
    · intro ε z hne hε hz b hb hb'
      obtain ⟨z', h1, h2, h3⟩ := back ε z hε hz
      by_cases hεβ : ε = β
      · subst hεβ
        rw [setF_self] at hb'
        rcases hsub b hb' with hm | hm
        · exact k.dj ε o (Ne.symm he) hβ hlive b hb hm
        · exact ((h.ok b hm).2.2.2 δ y hy hyl).1 hb
      · rw [setF_ne hεβ] at hb'
        exact k.dj ε z' hne h1 h2 b hb hb'

/-- A new name, in a block of no name or in a new one, and behind it what belonged to no name. -/
theorem Det.new (hI : Inv0 C Φ L H w) {F : Nat → List Nat} {G : List Nat} (h : Det C Φ L H w F G) {o' : AObj} {l : Option (Nat × Nat)} {w' : World}
    (hw : ∀ b, b < w.heap.size → b ∉ G → w'.heap[b]? = w.heap[b]?) (hs : w.heap.size ≤ w'.heap.size) {G1 : List Nat} (hsub : ∀ b ∈ G1, b ∈ G) (hnd : G1.Nodup)
    (hg : ∀ g cap, l = some (g, cap) → g ∉ G1 ∧ (g ∈ G ∨ w.heap.size ≤ g)) (hD : o'.live = true → Dp Φ (L ++ [l]) w' l G1 o') : Deep C Φ (L ++ [l]) (H ++ [o']) w' := by
  have hF' : ∀ (γ : Nat) o, H[γ]? = some o → o.live = true → InD C Φ L H w' F γ o := fun γ o ho hlv => by
    have k := h.ind γ o ho hlv
    refine ⟨?_, k.nd, fun b hb => Nat.lt_of_lt_of_le (k.lt b hb) hs, k.fr, k.old, k.hd, k.dj⟩
    obtain ⟨l', h1, h2⟩ := k.is
    refine ⟨l', h1, h2.keep (fun b hb => hw b (k.lt b hb) fun hm => ((h.ok b hm).2.2.2 γ o ho hlv).1 hb) fun g cap hgl hlt => hw g hlt fun hm => ?_⟩
    subst hgl
    exact ((h.ok g hm).2.2.2 γ o ho hlv).2 cap h1
  refine Deep.newF hI.len hF' hD hnd (fun b hb => ?_) fun g cap hgl hx γ x hγ hxl hm => ?_
  · obtain ⟨a1, a2, a3, a4⟩ := h.ok b (hsub b hb)
    exact ⟨by omega, a2, a3, fun cap e => (hg b cap e).1 hb, a4⟩
  · rcases (hg g cap hgl).2 with e | e
    · exact ((h.ok g e).2.2.2 γ x hγ hxl).1 hm
    · have := (h.ind γ x hγ hxl).lt g hm
      omega

/-! ### Rows written in part -/

theorem ownsRow_block {e : TypeId} {size n g cap : Nat} {cells : List Value} (h : w.ownsRow 0 e size (hdr (some (g, cap)) n) n cells) : ∃ cur : Array Value, w.heap[g]? = some (.cells cur e (0, 0)) ∧ cells.length ≤ cur.size := by
  rcases h.2 with ⟨h0, _⟩ | ⟨g', cap', cur, hv, _, hg, hle, _, hcs, htake⟩
  · simp [hdr] at h0
  · simp only [hdr, Value.slice.injEq, Option.some.injEq, Addr.mk.injEq] at hv
    obtain ⟨⟨rfl, _⟩, _, rfl⟩ := hv
    refine ⟨cur, hg, ?_⟩
    have := Nat.mul_le_mul_right size hle
    rw [h.1]; omega

theorem ownsRow_store {e : TypeId} {size n g cap : Nat} {cells us : List Value} {cur : Array Value} {a : Nat} (h : w.ownsRow 0 e size (hdr (some (g, cap)) n) n cells) (hg : w.heap[g]? = some (.cells cur e (0, 0))) (hle : a + us.length ≤ cells.length) :
    (w.setRow g (cur.toList.take a ++ us ++ cur.toList.drop (a + us.length)).toArray).ownsRow 0 e size (hdr (some (g, cap)) n) n (cells.take a ++ us ++ cells.drop (a + us.length)) := by
  have hcl := h.1
  rcases h.2 with ⟨h0, _⟩ | ⟨g', cap', cur', hv, hz, hg', hle', hm, hcs, htake⟩
  · simp [hdr] at h0
  · simp only [hdr, Value.slice.injEq, Option.some.injEq, Addr.mk.injEq] at hv
    obtain ⟨⟨rfl, _⟩, _, rfl⟩ := hv
    rw [hg] at hg'
    simp only [Option.some.injEq, Obj.cells.injEq] at hg'
    obtain ⟨rfl, _⟩ := hg'
    have hb := Nat.mul_le_mul_right size hle'
    have hcur : cur.toList.length = cur.size := Array.length_toList
    refine ⟨by simp only [List.length_append, List.length_take, List.length_drop]; omega, .inr ⟨g, cap, _, rfl, hz, setRow_heap w g cur _ e _ hg, hle', hm, ?_, ?_⟩⟩
    · simp only [List.size_toArray, List.length_append, List.length_take, List.length_drop]; omega
    · rw [← htake]
      have e1 : (cur.toList.take (n * size)).take a = cur.toList.take a := by rw [List.take_take, Nat.min_eq_left (by omega)]
      have e2 : (cur.toList.take (n * size)).drop (a + us.length) = (cur.toList.drop (a + us.length)).take (n * size - (a + us.length)) := List.drop_take ..
      rw [e1, e2]
      show List.take (n * size) (cur.toList.take a ++ us ++ cur.toList.drop (a + us.length)) = _
      have e3 : (cur.toList.take a ++ us).length = a + us.length := by simp only [List.length_append, List.length_take]; omega
      rw [List.take_append, e3, List.take_of_length_le (by omega)]

theorem splice3 {c1 c2 c3 us : List Value} {a off : Nat} (h1 : c1.length = a) (h2 : off + us.length ≤ c2.length) :
    (c1 ++ c2 ++ c3).take (a + off) ++ us ++ (c1 ++ c2 ++ c3).drop (a + off + us.length) = c1 ++ (c2.take off ++ us ++ c2.drop (off + us.length)) ++ c3 := by
  subst h1
  have e1 : (c1 ++ c2 ++ c3).take (c1.length + off) = c1 ++ c2.take off := by
    rw [List.append_assoc, List.take_length_add_append, List.take_append_of_le_length (by omega)]
  have e2 : (c1 ++ c2 ++ c3).drop (c1.length + off + us.length) = c2.drop (off + us.length) ++ c3 := by
    rw [List.append_assoc, Nat.add_assoc, List.drop_append, List.drop_of_length_le (by omega), List.nil_append, Nat.add_sub_cancel_left, List.drop_append_of_le_length h2]
  rw [e1, e2]; simp

/-! ### An element taken out of its array, and put back -/

def objOf (e : TypeId) : (d : DT) → List d.ty.D → AObj
  | .leaf T, xs => .arr T e xs
  | .pair a b, xs => .deep (.pair a b) e xs
  | .sl e' d, xs => .deep (.sl e' d) e xs

def openW : (d : DT) → d.ty.D → Nat → List AV × List AObj
  | .leaf T, x, _ => (flat T x, [])
  | .pair a b, x, n => ((openW a x.1 n).1 ++ (openW b x.2 (n + (openW a x.1 n).2.length)).1, (openW a x.1 n).2 ++ (openW b x.2 (n + (openW a x.1 n).2.length)).2)
  | .sl e d, xs, n => ([.osl n (List.length xs)], [objOf e d xs])
end
end Go.Proofs.Ythojapklndjidaa
