/- An element of an array that owns what its elements hold: taken out, put back; loops that do so. -/
import Derived.Test.YthojapklndjidaaSy16
namespace Go.Proofs.Ythojapklndjidaa
open Go Go.RowKit
set_option linter.unusedVariables false
set_option linter.all false

section
variable {P : Program} {C : Ctx} {Φ : Nat → Option Obj} {L : Locs} {H : List AObj} {w : World} {Γ : Ctrs} {τ : TypeId → Option Ty}

/-- Part of what lies behind a name is taken out. -/
theorem Det.detach {F : Nat → List Nat} (hF : ∀ (γ : Nat) o, H[γ]? = some o → o.live = true → InD C Φ L H w F γ o) {β : Nat} {o o' : AObj} {l : Option (Nat × Nat)} (hβ : H[β]? = some o) (hlive : o.live = true) (hl : L[β]? = some l)
    {G1 G2 : List Nat} (hs1 : ∀ b ∈ G1, b ∈ F β) (hs2 : ∀ b ∈ G2, b ∈ F β) (hn1 : G1.Nodup) (hn2 : G2.Nodup) (hdis : ∀ b ∈ G1, b ∉ G2) (hD : Dp Φ L w l G1 o') : Det C Φ L (H.set β o') w (setF F β G1) G2 := by
  have hlt : β < H.length := (List.getElem?_eq_some_iff.1 hβ).1
  have back : ∀ (δ : Nat) x, (H.set β o')[δ]? = some x → x.live = true → ∃ y, H[δ]? = some y ∧ y.live = true ∧ ((δ = β ∧ x = o') ∨ (δ ≠ β ∧ y = x)) := fun δ x hδ hx => by
    by_cases he : δ = β
    · subst he
      rw [List.getElem?_set_self hlt] at hδ
      simp only [Option.some.injEq] at hδ; subst hδ
      exact ⟨o, hβ, hlive, .inl ⟨rfl, rfl⟩⟩
    · rw [List.getElem?_set_ne (Ne.symm he)] at hδ
      exact ⟨x, hδ, hx, .inr ⟨he, rfl⟩⟩
  have kβ := hF β o hβ hlive
  have hsub : ∀ (δ : Nat), ∀ b ∈ setF F β G1 δ, b ∈ F δ := fun δ b hb => by
    by_cases he : δ = β
    · subst he; rw [setF_self] at hb; exact hs1 b hb
    · rw [setF_ne he] at hb; exact hb
  refine ⟨fun δ x hδ hx => ?_, hn2, fun b hb => ⟨kβ.lt b (hs2 b hb), kβ.fr b (hs2 b hb), kβ.old b (hs2 b hb), fun δ x hδ hx => ?_⟩⟩
  · obtain ⟨y, hy, hyl, hyx⟩ := back δ x hδ hx
    have k := hF δ y hy hyl
    refine ⟨?_, ?_, fun b hb => k.lt b (hsub δ b hb), fun b hb => k.fr b (hsub δ b hb), fun b hb => k.old b (hsub δ b hb), fun b hb ε z cap hε hz e => ?_, fun ε z hne hε hz b hb hb' => ?_⟩
    · rcases hyx with ⟨rfl, rfl⟩ | ⟨he, rfl⟩
      · exact ⟨l, hl, by rw [setF_self]; exact hD⟩
      · rw [setF_ne he]; exact k.is
    · rcases hyx with ⟨rfl, rfl⟩ | ⟨he, rfl⟩
      · rw [setF_self]; exact hn1
      · rw [setF_ne he]; exact k.nd
    · obtain ⟨z', h1, h2, _⟩ := back ε z hε hz
      exact k.hd b (hsub δ b hb) ε z' cap h1 h2 e
    · obtain ⟨z', h1, h2, _⟩ := back ε z hε hz
      exact k.dj ε z' hne h1 h2 b (hsub δ b hb) (hsub ε b hb')
  · obtain ⟨y, hy, hyl, hyx⟩ := back δ x hδ hx
    refine ⟨fun hm => ?_, fun cap e => kβ.hd b (hs2 b hb) δ y cap hy hyl e⟩
    by_cases he : δ = β
    · subst he; rw [setF_self] at hm; exact hdis b hm hb
    · rw [setF_ne he] at hm
      exact kβ.dj δ y he hy hyl b (hs2 b hb) hm

/-- A name given to blocks of no name. -/
theorem Det.give (hI : Inv0 C Φ L H w) {F : Nat → List Nat} {G G1 : List Nat} {l : Option (Nat × Nat)} (h : Det C Φ L H w F (G ++ (headB l ++ G1))) {o' : AObj} (hk : ObjOk Φ (L ++ [l]) w l o') (hlv : o'.live = true) (hD : Dp Φ (L ++ [l]) w l G1 o') :
    Inv0 C Φ (L ++ [l]) (H ++ [o']) w ∧ Det C Φ (L ++ [l]) (H ++ [o']) w (setF F H.length G1) G := by
  have hmemh : ∀ g cap, l = some (g, cap) → g ∈ G ++ (headB l ++ G1) := fun g cap e => List.mem_append.2 (.inr (List.mem_append.2 (.inl (mem_headB.2 ⟨cap, e⟩))))
  have hmem1 : ∀ b ∈ G1, b ∈ G ++ (headB l ++ G1) := fun b hb => List.mem_append.2 (.inr (List.mem_append.2 (.inr hb)))
  have hmem0 : ∀ b ∈ G, b ∈ G ++ (headB l ++ G1) := fun b hb => List.mem_append.2 (.inl hb)
  have hnd := h.nd
  rw [List.nodup_append] at hnd
  obtain ⟨n1, n2, n3⟩ := hnd
  rw [List.nodup_append] at n2
  obtain ⟨n4, n5, n6⟩ := n2
  have hI' : Inv0 C Φ (L ++ [l]) (H ++ [o']) w := hI.new hk fun g cap e _ => by
    obtain ⟨a1, a2, a3, a4⟩ := h.ok g (hmemh g cap e)
    exact ⟨a2, a3, fun γ x cap' hγ hx => (a4 γ x hγ hx).2 cap'⟩
  refine ⟨hI', ?_, n1, fun b hb => ?_⟩
  · have hL : ∀ (i : Nat) x, L[i]? = some x → (L ++ [l])[i]? = some x := Locs.snoc l
    have hLn : (L ++ [l])[H.length]? = some l := by rw [← hI.len]; simp
    have hLo : ∀ (γ : Nat), γ < H.length → (L ++ [l])[γ]? = L[γ]? := fun γ hγ => List.getElem?_append_left (by rw [hI.len]; exact hγ)
    intro γ x hγ hx
    rcases snoc_get hγ with ⟨hlt, hγ1⟩ | ⟨rfl, rfl⟩
    · have k := h.ind γ x hγ1 hx
      have e : setF F H.length G1 γ = F γ := setF_ne (by omega)
      refine ⟨?_, by rw [e]; exact k.nd, by rw [e]; exact k.lt, by rw [e]; exact k.fr, by rw [e]; exact k.old, ?_, ?_⟩
      · rw [e]
        obtain ⟨l', h1, h2⟩ := k.is
        exact ⟨l', hL _ _ h1, h2.more (More.refl _) hL⟩
      · rw [e]
        intro b hb δ y cap hδ hy hl
        rcases snoc_get hδ with ⟨hlt', hδ'⟩ | ⟨rfl, rfl⟩
        · rw [hLo δ hlt'] at hl; exact k.hd b hb δ y cap hδ' hy hl
        · rw [hLn] at hl; simp only [Option.some.injEq] at hl
          exact ((h.ok b (hmemh b cap hl)).2.2.2 γ x hγ1 hx).1 hb
      · rw [e]
        intro δ y hne hδ hy b hb hb'
        rcases snoc_get hδ with ⟨hlt', hδ'⟩ | ⟨rfl, rfl⟩
        · rw [setF_ne (by omega)] at hb'
          exact k.dj δ y hne hδ' hy b hb hb'
        · rw [setF_self] at hb'
          exact ((h.ok b (hmem1 b hb')).2.2.2 γ x hγ1 hx).1 hb
    · have e : setF F H.length G1 H.length = G1 := setF_self
      refine ⟨⟨l, hLn, by rw [e]; exact hD⟩, by rw [e]; exact n5, by rw [e]; exact fun b hb => (h.ok b (hmem1 b hb)).1, by rw [e]; exact fun b hb => (h.ok b (hmem1 b hb)).2.1, by rw [e]; exact fun b hb => (h.ok b (hmem1 b hb)).2.2.1, ?_, ?_⟩
      · rw [e]
        intro b hb δ y cap hδ hy hl
        rcases snoc_get hδ with ⟨hlt', hδ'⟩ | ⟨rfl, rfl⟩
        · rw [hLo δ hlt'] at hl; exact ((h.ok b (hmem1 b hb)).2.2.2 δ y hδ' hy).2 cap hl
        · rw [hLn] at hl; simp only [Option.some.injEq] at hl
          exact n6 b (mem_headB.2 ⟨cap, hl⟩) b hb rfl
      · rw [e]
        intro δ y hne hδ hy b hb hb'
        rcases snoc_get hδ with ⟨hlt', hδ'⟩ | ⟨rfl, rfl⟩
        · rw [setF_ne (by omega)] at hb'
          exact ((h.ok b (hmem1 b hb)).2.2.2 δ y hδ' hy).1 hb'
        · exact absurd rfl hne
  · obtain ⟨a1, a2, a3, a4⟩ := h.ok b (hmem0 b hb)
    refine ⟨a1, a2, a3, fun γ x hγ hx => ?_⟩
    rcases snoc_get hγ with ⟨hlt, hγ1⟩ | ⟨rfl, rfl⟩
    · rw [setF_ne (by omega), List.getElem?_append_left (by rw [hI.len]; exact hlt)]
      exact a4 γ x hγ1 hx
    · rw [setF_self, ← hI.len]
      refine ⟨fun hm => n3 b hb b (List.mem_append.2 (.inr hm)) rfl, fun cap e => ?_⟩
      simp at e
      exact n3 b hb b (List.mem_append.2 (.inl (mem_headB.2 ⟨cap, e⟩))) rfl

theorem LRep.leaf {T : Ty} : ∀ {xs : List T.D} {cs : List Value} {F : List Nat}, LRep (RepO w (.leaf T)) xs cs F → F = [] ∧ RepL Φ T xs cs
  | [], _, _, ⟨h, h'⟩ => ⟨h', h⟩
  | x :: xs, _, _, ⟨v1, v2, F1, F2, hc, hF, h1, h2⟩ => by
    obtain ⟨rfl, hf, h1⟩ := h1
    obtain ⟨rfl, h3⟩ := LRep.leaf h2
    exact ⟨by simpa using hF, v1, v2, hc, RepT.flat hf h1, h3⟩

theorem objOf_live (e : TypeId) (d : DT) (xs : List d.ty.D) : (objOf e d xs).live = true := by cases d <;> rfl

theorem own_shape {e : TypeId} {size n : Nat} {l : Option (Nat × Nat)} {cells : List Value} (h : w.ownsRow 0 e size (hdr l n) n cells) : (l = none → n = 0) ∧ ∀ g cap, l = some (g, cap) → n ≤ cap ∧ cap ≤ maxB := by
  rcases h.2 with ⟨hv, h0⟩ | ⟨g, cap, cur, hv, _, _, hle, hm, _⟩
  · cases l with
    | none => exact ⟨fun _ => h0, fun g cap e => by cases e⟩
    | some p => obtain ⟨a, b⟩ := p; simp [hdr] at hv
  · cases l with
    | none => simp [hdr] at hv
    | some p =>
      obtain ⟨a, b⟩ := p
      simp only [hdr, Value.slice.injEq, Option.some.injEq, Addr.mk.injEq] at hv
      obtain ⟨⟨rfl, _⟩, _, rfl⟩ := hv
      exact ⟨(fun e => by cases e), fun g' cap' e => by simp only [Option.some.injEq, Prod.mk.injEq] at e; obtain ⟨rfl, rfl⟩ := e; exact ⟨hle, hm⟩⟩

theorem open_ok : ∀ {d : DT} {x : d.ty.D} {vs : List Value} {Fx : List Nat} {L : Locs} {H : List AObj} {F : Nat → List Nat} {G : List Nat}, RepO w d x vs Fx → Inv0 C Φ L H w → Det C Φ L H w F (G ++ Fx) →
    ∃ Ln F', Inv0 C Φ (L ++ Ln) (H ++ (openW d x H.length).2) w ∧ Det C Φ (L ++ Ln) (H ++ (openW d x H.length).2) w F' G ∧ CVals Φ (L ++ Ln) (openW d x H.length).1 vs ∧ ∀ (i : Nat), i < H.length → F' i = F i
  | .leaf T, x, vs, Fx, L, H, F, G, hr, hI, h => by
    obtain ⟨rfl, hf, hr⟩ := hr
    refine ⟨[], F, by simpa [openW] using hI, by simpa [openW] using h, ?_, fun i _ => rfl⟩
    simp only [openW]
    exact CVals.of_rep (RepT.flat hf hr)
  | .pair a b, x, vs, Fx, L, H, F, G, hr, hI, h => by
    obtain ⟨v1, v2, F1, F2, rfl, rfl, h1, h2⟩ := hr
    have h' : Det C Φ L H w F ((G ++ F2) ++ F1) := by
      refine ⟨h.ind, ?_, fun b hb => h.ok b ?_⟩
      · have := h.nd
        refine this.perm ?_
        rw [List.append_assoc]
        exact (List.perm_append_comm).append_left _
      · simp only [List.mem_append] at hb ⊢
        rcases hb with (hb | hb) | hb
        · exact .inl hb
        · exact .inr (.inr hb)
        · exact .inr (.inl hb)
    obtain ⟨La, Fa, a1, a2, a3, a4⟩ := open_ok h1 hI h'
    obtain ⟨Lb, Fb, b1, b2, b3, b4⟩ := open_ok h2 a1 a2
    have hlen : (H ++ (openW a x.1 H.length).2).length = H.length + (openW a x.1 H.length).2.length := List.length_append ..
    rw [hlen] at b1 b2 b3
    refine ⟨La ++ Lb, Fb, by simpa [openW] using b1, by simpa [openW] using b2, ?_, fun i hi => by rw [b4 i (by rw [hlen]; omega), a4 i hi]⟩
    simp only [openW]
    refine CVals.append (a3.mono (More.refl _) fun i y hy => ?_) (by simpa using b3)
    rw [← List.append_assoc, List.getElem?_append_left (List.getElem?_eq_some_iff.1 hy).1]; exact hy
  | .sl e d, xs, vs, Fx, L, H, F, G, hr, hI, h => by
    obtain ⟨l, cells, F', rfl, rfl, hown, hrr⟩ := hr
    have hk : ObjOk Φ (L ++ [l]) w l (objOf e d xs) := by
      cases d with
      | leaf T => exact ⟨cells, hown, (LRep.leaf hrr).2⟩
      | pair a b => exact ⟨cells, hown⟩
      | sl e' d' => exact ⟨cells, hown⟩
    have hD : Dp Φ (L ++ [l]) w l F' (objOf e d xs) := by
      cases d with
      | leaf T => exact (LRep.leaf (Φ := Φ) hrr).1
      | pair a b => exact ⟨cells, hown, hrr⟩
      | sl e' d' => exact ⟨cells, hown, hrr⟩
    obtain ⟨g1, g2⟩ := Det.give hI h hk (objOf_live e d xs) hD
    obtain ⟨s1, s2⟩ := own_shape hown
    refine ⟨[l], _, g1, g2, ?_, fun i hi => setF_ne (by omega)⟩
    simp only [openW]
    refine .cons (by cases l <;> rfl) ?_ .nil
    exact osl_of_hdr (by rw [← hI.len]; simp) s1 s2

def openH (H : List AObj) (γ : Nat) (d : DT) (e : TypeId) (xs : List d.ty.D) (i : Nat) : List AObj :=
  H.set γ (.ope d e xs i (openW d (nth d.ty xs i) H.length).1) ++ (openW d (nth d.ty xs i) H.length).2

theorem Conc.open {S : St} {a : Act} (hc : Conc C Φ L S a w) {γ : Nat} {d : DT} {e : TypeId} {xs : List d.ty.D} {i : Nat} (ho : S.heap[γ]? = some (.deep d e xs)) (hi : i < xs.length) :
    ∃ L', Conc C Φ L' ⟨S.tmps, openH S.heap γ d e xs i⟩ a w := by
  obtain ⟨F, hF⟩ := hc.inv.deep
  obtain ⟨l, hl, cells, hown, hr⟩ := (hF γ _ ho rfl).is
  obtain ⟨c1, c2, c3, F1, F2, F3, rfl, hFe, r1, r2, r3⟩ := hr.split i hi
  have hnd := (hF γ _ ho rfl).nd
  rw [hFe] at hnd
  have hlt : γ < S.heap.length := (List.getElem?_eq_some_iff.1 ho).1
  have hnd' := hnd
  rw [List.append_assoc, List.nodup_append] at hnd'
  obtain ⟨n1, n2, n3⟩ := hnd'
  rw [List.nodup_append] at n2
  obtain ⟨n4, n5, n6⟩ := n2
  -- with nothing told of the element's words
  have hany : ∀ {L : Locs} {vs : List Value}, (∀ v ∈ vs, v.oneCell' = true) → CVals Φ L (List.replicate vs.length .any) vs := fun {L vs} h1 => ⟨by simp, fun j c v h2 h3 => by
    have := List.mem_of_getElem? h2
    simp at this
    rw [this.2]
    exact ⟨h1 v (List.mem_of_getElem? h3), .any v⟩⟩
  have hone : ∀ v ∈ c2, v.oneCell' = true := fun v hv => by
    have hc : CVals (fun _ => none) [] (flatD d xs[i]) c2 := r2.words
    obtain ⟨j, hj, rfl⟩ := List.mem_iff_getElem.1 hv
    exact (hc.2 j _ _ (List.getElem?_eq_getElem (by rw [← hc.1]; exact hj)) (List.getElem?_eq_getElem hj)).1
  have hc2l := r2.length
  have hdet : Det C Φ L (S.heap.set γ (.ope d e xs i (List.replicate c2.length .any))) w (setF F γ (F1 ++ F3)) F2 := by
    refine Det.detach hF ho rfl hl (fun b hb => ?_) (fun b hb => ?_) ?_ n4 (fun b hb hb' => ?_) ⟨c1, c2, c3, F1, F3, hi, hown, r1, hany hone, by simp [hc2l], r3, rfl⟩
    · rw [hFe]; simp only [List.mem_append] at hb ⊢
      rcases hb with hb | hb
      · exact .inl (.inl hb)
      · exact .inr hb
    · rw [hFe]; simp [hb]
    · rw [List.nodup_append]
      exact ⟨n1, n5, fun a ha b hb e => n3 a ha b (List.mem_append.2 (.inr hb)) e⟩
    · rcases List.mem_append.1 hb with hb | hb
      · exact n3 b hb b (List.mem_append.2 (.inl hb')) rfl
      · exact n6 b hb' b hb rfl
  have hI1 : Inv0 C Φ L (S.heap.set γ (.ope d e xs i (List.replicate c2.length .any))) w := by
    have hI := hc.inv.toInv0
    have back : ∀ (δ : Nat) x, (S.heap.set γ (.ope d e xs i (List.replicate c2.length .any)))[δ]? = some x → ∃ y, S.heap[δ]? = some y ∧ y.live = x.live ∧ ∀ l, ObjOk Φ L w l y → ObjOk Φ L w l x := fun δ x hδ => by
      by_cases he : δ = γ
      · subst he
        rw [List.getElem?_set_self hlt] at hδ
        simp only [Option.some.injEq] at hδ; subst hδ
        exact ⟨_, ho, rfl, fun l h => h⟩
      · rw [List.getElem?_set_ne (Ne.symm he)] at hδ
        exact ⟨x, hδ, rfl, fun l h => h⟩
    refine ⟨by rw [List.length_set]; exact hI.len, hI.frz, hI.base, hI.glob, hI.fresh, hI.os, hI.tape, hI.output, hI.size, hI.keep, fun δ x hδ => ?_, fun δ x g cap hδ hx e => ?_, fun δ ε x y g cap cap' hne hδ hx hε hy e1 e2 => ?_, hI.pre⟩
    · obtain ⟨y, h1, _, h3⟩ := back δ x hδ
      obtain ⟨l', h4, h5⟩ := hI.obj δ y h1
      exact ⟨l', h4, h3 l' h5⟩
    · obtain ⟨y, h1, h2, _⟩ := back δ x hδ
      exact hI.own δ y g cap h1 (by rw [h2]; exact hx) e
    · obtain ⟨x', h1, h2, _⟩ := back δ x hδ
      obtain ⟨y', h3, h4, _⟩ := back ε y hε
      exact hI.inj δ ε x' y' g cap cap' hne h1 (by rw [h2]; exact hx) h3 (by rw [h4]; exact hy) e1 e2
  obtain ⟨Ln, F', i1, i2, i3, i4⟩ := open_ok (G := []) r2 hI1 (by simpa using hdet)
  rw [List.length_set] at i1 i2 i3
  have hn : nth d.ty xs i = xs[i] := by simp [nth, List.getD, List.getElem?_eq_getElem hi]
  refine ⟨L ++ Ln, hc.defers, hc.size, fun j c v h1 h2 => (hc.tmps j c v h1 h2).mono (More.refl _) fun k y hy => by rw [List.getElem?_append_left (List.getElem?_eq_some_iff.1 hy).1]; exact hy, ?_⟩
  -- now the element's words
  have hH : openH S.heap γ d e xs i = (S.heap.set γ (.ope d e xs i (List.replicate c2.length .any)) ++ (openW d xs[i] S.heap.length).2).set γ (.ope d e xs i (openW d xs[i] S.heap.length).1) := by
    unfold openH
    rw [hn, List.set_append_left _ _ (by rw [List.length_set]; exact hlt), List.set_set]
  have hγ1 : (S.heap.set γ (.ope d e xs i (List.replicate c2.length .any)) ++ (openW d xs[i] S.heap.length).2)[γ]? = some (.ope d e xs i (List.replicate c2.length .any)) := by
    rw [List.getElem?_append_left (by rw [List.length_set]; exact hlt), List.getElem?_set_self hlt]
  have hl' : (L ++ Ln)[γ]? = some l := by rw [List.getElem?_append_left (List.getElem?_eq_some_iff.1 hl).1]; exact hl
  show Inv C Φ (L ++ Ln) (openH S.heap γ d e xs i) w
  rw [hH]
  have hlt2 : γ < (S.heap.set γ (.ope d e xs i (List.replicate c2.length .any)) ++ (openW d xs[i] S.heap.length).2).length := (List.getElem?_eq_some_iff.1 hγ1).1
  refine ⟨?_, F', fun δ x hδ hx => ?_⟩
  · have back : ∀ (δ : Nat) x, ((S.heap.set γ (.ope d e xs i (List.replicate c2.length .any)) ++ (openW d xs[i] S.heap.length).2).set γ (.ope d e xs i (openW d xs[i] S.heap.length).1))[δ]? = some x →
        ∃ y, (S.heap.set γ (.ope d e xs i (List.replicate c2.length .any)) ++ (openW d xs[i] S.heap.length).2)[δ]? = some y ∧ y.live = x.live ∧ ∀ l, ObjOk Φ (L ++ Ln) w l y → ObjOk Φ (L ++ Ln) w l x := fun δ x hδ => by
      by_cases he : δ = γ
      · subst he
        rw [List.getElem?_set_self hlt2] at hδ
        simp only [Option.some.injEq] at hδ; subst hδ
        exact ⟨_, hγ1, rfl, fun l h => h⟩
      · rw [List.getElem?_set_ne (Ne.symm he)] at hδ
        exact ⟨x, hδ, rfl, fun l h => h⟩
    refine ⟨by rw [List.length_set]; exact i1.len, i1.frz, i1.base, i1.glob, i1.fresh, i1.os, i1.tape, i1.output, i1.size, i1.keep, fun δ x hδ => ?_, fun δ x g cap hδ hx e => ?_, fun δ ε x y g cap cap' hne hδ hx hε hy e1 e2 => ?_, i1.pre⟩
    · obtain ⟨y, h1, _, h3⟩ := back δ x hδ
      obtain ⟨l', h4, h5⟩ := i1.obj δ y h1
      exact ⟨l', h4, h3 l' h5⟩
    · obtain ⟨y, h1, h2, _⟩ := back δ x hδ
      exact i1.own δ y g cap h1 (by rw [h2]; exact hx) e
    · obtain ⟨x', h1, h2, _⟩ := back δ x hδ
      obtain ⟨y', h3, h4, _⟩ := back ε y hε
      exact i1.inj δ ε x' y' g cap cap' hne h1 (by rw [h2]; exact hx) h3 (by rw [h4]; exact hy) e1 e2
  · have back : ∀ (δ : Nat) x, ((S.heap.set γ (.ope d e xs i (List.replicate c2.length .any)) ++ (openW d xs[i] S.heap.length).2).set γ (.ope d e xs i (openW d xs[i] S.heap.length).1))[δ]? = some x → x.live = true →
        ∃ y, (S.heap.set γ (.ope d e xs i (List.replicate c2.length .any)) ++ (openW d xs[i] S.heap.length).2)[δ]? = some y ∧ y.live = true ∧ ((δ = γ ∧ x = .ope d e xs i (openW d xs[i] S.heap.length).1) ∨ (δ ≠ γ ∧ y = x)) := fun δ x hδ hx => by
      by_cases he : δ = γ
      · subst he
        rw [List.getElem?_set_self hlt2] at hδ
        simp only [Option.some.injEq] at hδ; subst hδ
        exact ⟨_, hγ1, rfl, .inl ⟨rfl, rfl⟩⟩
      · rw [List.getElem?_set_ne (Ne.symm he)] at hδ
        exact ⟨x, hδ, hx, .inr ⟨he, rfl⟩⟩
    obtain ⟨y, h1, h2, h3⟩ := back δ x hδ hx
    have k := i2.ind δ y h1 h2
    refine ⟨?_, k.nd, k.lt, k.fr, k.old, fun b hb ε z cap hε hz e => ?_, fun ε z hne hε hz b hb hb' => ?_⟩
    · rcases h3 with ⟨rfl, rfl⟩ | ⟨he, rfl⟩
      · refine ⟨l, hl', ?_⟩
        rw [i4 δ (by rw [List.length_set]; exact hlt), setF_self]
        have hw := i3.1
        exact ⟨c1, c2, c3, F1, F3, hi, hown, r1, i3, by rw [← hw, hc2l], r3, rfl⟩
      · exact k.is
    · obtain ⟨z', g1, g2, _⟩ := back ε z hε hz
      exact k.hd b hb ε z' cap g1 g2 e
    · obtain ⟨z', g1, g2, _⟩ := back ε z hε hz
      exact k.dj ε z' hne g1 g2 b hb hb'

def isOpe : Option AObj → Bool
  | some (.ope ..) => true
  | _ => false

/-- The element put back. -/
def closeS (γ : Nat) (S : St) : Option (Prop × St) := match S.heap[γ]? with
  | some (.ope d e xs i ws) => match absorb S.heap d ws with
    | some (p, y, [], H') => if isOpe H'[γ]? = true then some (p, ⟨S.tmps, H'.set γ (.deep d e (xs.set i y))⟩) else none
    | _ => none
  | _ => none

theorem Conc.close {S S' : St} {a : Act} (hc : Conc C Φ L S a w) {γ : Nat} {p : Prop} (h : closeS γ S = some (p, S')) (hp : p) : Conc C Φ L S' a w := by
  unfold closeS at h
  split at h
  · rename_i d e xs i ws ho
    split at h
    · rename_i p y H' habs
      split at h
      · rename_i hlv
        simp only [Option.some.injEq, Prod.mk.injEq] at h
        obtain ⟨rfl, rfl⟩ := h
        obtain ⟨F, hF⟩ := hc.inv.deep
        obtain ⟨l, hl, c1, c2, c3, F1, F2, hi, hown, r1, hcv, hwl, r3, hFe⟩ := (hF γ _ ho rfl).is
        obtain ⟨v1, v2, G, hvs, hrep, hnil, hI', hdet⟩ := absorb_ok hc.inv.toInv0 (.of_deep hF) habs hp hcv
        have hv2 := hnil.inv_nil
        subst hv2
        rw [List.append_nil] at hvs
        subst hvs
        rw [List.nil_append] at hdet
        obtain ⟨hkl, hkeep⟩ := absorb_keep habs
        have hlt : γ < S.heap.length := (List.getElem?_eq_some_iff.1 ho).1
        have ho' : H'[γ]? = some (.ope d e xs i ws) := by
          have hq : H'[γ]? = some (H'[γ]'(by omega)) := List.getElem?_eq_getElem _
          obtain ⟨o, e1, e2⟩ := hkeep γ _ hq
          rw [ho] at e1; simp only [Option.some.injEq] at e1; subst e1
          rcases e2 with e2 | e2
          · rw [hq, ← e2]
          · rw [hq, e2] at hlv; cases hlv
        have hnd := (hdet.ind γ _ ho' rfl).nd
        rw [hFe, List.nodup_append] at hnd
        obtain ⟨n1, n2, n3⟩ := hnd
        have hdG : ∀ b ∈ G, b ∉ F γ := fun b hb => ((hdet.ok b hb).2.2.2 γ _ ho' rfl).1
        refine ⟨hc.defers, hc.size, hc.tmps, ⟨?_, Det.put hI' hdet ho' rfl hl (fun _ _ _ => rfl) (Nat.le_refl _) (G1 := F1 ++ G ++ F2) (fun b hb => ?_) ?_ fun _ => ⟨_, by rw [List.length_set]; exact hown, LRep.join hi r1 hrep r3⟩⟩⟩
        · have hlt' : γ < H'.length := by omega
          have back : ∀ (δ : Nat) x, (H'.set γ (.deep d e (xs.set i y)))[δ]? = some x → ∃ z, H'[δ]? = some z ∧ z.live = x.live ∧ ∀ l, ObjOk Φ L w l z → ObjOk Φ L w l x := fun δ x hδ => by
            by_cases he : δ = γ
            · subst he
              rw [List.getElem?_set_self hlt'] at hδ
              simp only [Option.some.injEq] at hδ; subst hδ
              exact ⟨_, ho', rfl, fun l ⟨cells, h⟩ => ⟨cells, by rw [List.length_set]; exact h⟩⟩
            · rw [List.getElem?_set_ne (Ne.symm he)] at hδ
              exact ⟨x, hδ, rfl, fun l h => h⟩
          refine ⟨by rw [List.length_set]; exact hI'.len, hI'.frz, hI'.base, hI'.glob, hI'.fresh, hI'.os, hI'.tape, hI'.output, hI'.size, hI'.keep, fun δ x hδ => ?_, fun δ x g cap hδ hx e => ?_, fun δ ε x y g cap cap' hne hδ hx hε hy e1 e2 => ?_, hI'.pre⟩
          · obtain ⟨y, h1, _, h3⟩ := back δ x hδ
            obtain ⟨l', h4, h5⟩ := hI'.obj δ y h1
            exact ⟨l', h4, h3 l' h5⟩
          · obtain ⟨y, h1, h2, _⟩ := back δ x hδ
            exact hI'.own δ y g cap h1 (by rw [h2]; exact hx) e
          · obtain ⟨x', h1, h2, _⟩ := back δ x hδ
            obtain ⟨y', h3, h4, _⟩ := back ε y hε
            exact hI'.inj δ ε x' y' g cap cap' hne h1 (by rw [h2]; exact hx) h3 (by rw [h4]; exact hy) e1 e2
        · rw [hFe]
          simp only [List.mem_append] at hb ⊢
          rcases hb with (hb | hb) | hb
          · exact .inl (.inl hb)
          · exact .inr hb
          · exact .inl (.inr hb)
        · rw [List.append_assoc, List.nodup_append]
          refine ⟨n1, ?_, fun a ha b hb e => ?_⟩
          · rw [List.nodup_append]
            exact ⟨hdet.nd, n2, fun a ha b hb e => by subst e; exact hdG a ha (by rw [hFe]; simp [hb])⟩
          · subst e
            rcases List.mem_append.1 hb with hb | hb
            · exact hdG a hb (by rw [hFe]; simp [ha])
            · exact n3 a ha a hb rfl
      · cases h
    · cases h
  · cases h

theorem AWp_open {c : Code} {S : St} {Q : AExit → St → Prop} (γ : Nat) {d : DT} {e : TypeId} {xs : List d.ty.D} (i : Nat) (ho : S.heap[γ]? = some (.deep d e xs)) (hi : i < xs.length) (h : AWp P C c ⟨S.tmps, openH S.heap γ d e xs i⟩ Q) : AWp P C c S Q := by
  intro Φ L a w hc
  obtain ⟨L', hc'⟩ := hc.open ho hi
  exact h Φ L' a w hc'

def closeLe (γ : Nat) (ps : List Nat) (S S' : St) : Prop := match closeS γ S with
  | some (p, S1) => p ∧ St.le ps S1 S'
  | none => False

theorem AWp_close {c : Code} {S S' : St} {Q : AExit → St → Prop} (γ : Nat) {p : Prop} (h : closeS γ S = some (p, S')) (hp : p) (hw : AWp P C c S' Q) : AWp P C c S Q :=
  fun Φ L a w hc => hw Φ L a w (hc.close h hp)

/-- A loop that opens an element in each round and closes it again. -/
theorem AWp_loop_own {α : Type} (γ : Nat) {c : Code} {S : St} {Q : AExit → St → Prop} (St' : α → St) (μ : α → Nat) (I : α → Prop) (x0 : α) (ps0 : List Nat) (h0 : (∀ i, i < C.L0.length → ps0[i]? = some i) ∧ St.le ps0 S (St' x0)) (hI0 : I x0)
    (round : ∀ x, I x → AWp P C c (St' x) (thenQ (fun S' => ∃ y ps, I y ∧ μ y < μ x ∧ (∀ i, i < C.L0.length → ps[i]? = some i) ∧ closeLe γ ps S' (St' y)) Q)) : AWp P C (.loop c) S Q := by
  refine AWp_sub ps0 h0.1 h0.2 (AWp_loop St' μ I (fun x hx => ?_) x0 hI0)
  refine (round x hx).mono fun e S' hq => ?_
  cases e with
  | normal =>
    obtain ⟨y, ps, h1, h2, h4, h3⟩ := hq
    refine ⟨y, h1, h2, fun Φ L a w hc => ?_⟩
    unfold closeLe at h3
    split at h3
    · rename_i p S1 hcl
      exact ⟨_, _, (hc.close hcl h3.1).sub h4 h3.2⟩
    · exact h3.elim
  | exit i => exact hq
  | ret => exact hq
end
end Go.Proofs.Ythojapklndjidaa
