/- Code as a whole; what a function hands back. -/
import Derived.Test.YthojapklndjidaaSy14
import Derived.OrdersHeld
namespace Go.Proofs.Ythojapklndjidaa
open Go Go.RowKit
set_option linter.unusedVariables false
set_option linter.all false

section
variable {P : Program} {C : Ctx} {Φ : Nat → Option Obj} {L : Locs} {H : List AObj} {w : World} {Γ : Ctrs} {τ : TypeId → Option Ty}

theorem Conc.put {S : St} {a : Act} (h : Conc C Φ L S a w) {Φ' : Nat → Option Obj} {L' : Locs} (hm : More Φ Φ') (hL : ∀ (i : Nat) x, L[i]? = some x → L'[i]? = some x) {H' : List AObj} {w' : World} (hI : Inv C Φ' L' H' w')
    (d : Option Tmp) {av : AV} {v : Value} (hv : CVal Φ' L' av v) : Conc C Φ' L' ⟨setT S.tmps d av, H'⟩ (a.put d v) w' := by
  cases d with
  | none => exact ⟨h.defers, h.size, fun i c u hc hu => (h.tmps i c u hc hu).mono hm hL, hI⟩
  | some d =>
    refine ⟨h.defers, by simp [Act.put, setT, h.size], fun i c u hc hu => ?_, hI⟩
    simp only [Act.put, setT] at hc hu
    rw [List.getElem?_set] at hc
    rw [Array.getElem?_setIfInBounds] at hu
    by_cases hdi : d = i
    · subst hdi
      simp only [if_true] at hc hu
      split at hc
      · split at hu
        · simp only [Option.some.injEq] at hc hu; subst hc; subst hu; exact hv
        · cases hu
      · cases hc
    · simp only [hdi, if_false] at hc hu
      exact (h.tmps i c u hc hu).mono hm hL

theorem Conc.below {S : St} {a : Act} (h : Conc C Φ L S a w) {w' : World} (hb : Below w.heap.size w w') : Conc C Φ L S a w' := ⟨h.defers, h.size, h.tmps, h.inv.below hb⟩

theorem gcond_ok {S : St} {a : Act} (h : Conc C Φ L S a w) {ops : Array Oper} {j : Nat} {want c : Bool} (hg : gcond S ops.toList j want = some c) {o : Oper} (ho : o.guard = some (j, want)) : Region.wanted o (yielded ops a.tmps) = c := by
  unfold gcond at hg
  split at hg
  · rename_i oj hoj
    have hoj' : ops[j]? = some oj := by simpa using hoj
    split at hg
    · rename_i d hd
      have hlt : ∀ x, S.tmps[d]? = some x → ∃ v, a.tmps[d]? = some v ∧ CVal Φ L x v := fun x hx => by
        have hl : d < a.tmps.size := by rw [h.size]; exact (List.getElem?_eq_some_iff.1 hx).1
        exact ⟨_, Array.getElem?_eq_getElem hl, h.tmps d x _ hx (Array.getElem?_eq_getElem hl)⟩
      split at hg
      · rename_i b hb
        simp only [Option.some.injEq] at hg; subst hg
        obtain ⟨v, hv, hc⟩ := hlt _ hb
        cases hc
        simp [Region.wanted, ho, yielded, hoj', hd, hv]
      · rename_i cc b hb
        simp only [Option.some.injEq] at hg; subst hg
        obtain ⟨v, hv, hc⟩ := hlt _ hb
        cases hc with
        | opt _ _ _ h1 h2 =>
          cases cc with
          | true =>
            cases h1 rfl
            simp [Region.wanted, ho, yielded, hoj', hd, hv]
          | false =>
            have := h2 rfl
            subst this
            simp [Region.wanted, ho, yielded, hoj', hd, hv, undef]
      · cases hg
    · cases hg
  · cases hg

theorem quiet_wp {o : Oper} {a : Act} {v : Value} {K : Act → World → Prop} {Q : Exit → Act → World → Prop} (h : ∀ w', Below w.heap.size w w' → o.quietAt P a (Below w.heap.size w) w' v) (hK : ∀ w', Below w.heap.size w w' → K (a.put o.dst v) w') : o.wp P a w K Q :=
  Oper.wp_of_quiet (C := Below w.heap.size w) (K := fun a' => a' = a.put o.dst v) (Below.refl _ _) (fun a' w' hw ha => by subst ha; exact hK w' hw) ⟨v, h, rfl⟩

theorem areg_seq (hΓ : CtrsOk P Γ) {ops : Array Oper} {K : St → Prop} {Q : Exit → Act → World → Prop} (hK : ∀ S' Φ' L' a' w', K S' → Conc C Φ' L' S' a' w' → Q .normal a' w') :
    ∀ {rest : List Oper} {S : St} {a : Act} {w : World} {Φ : Nat → Option Obj} {L : Locs}, areg P Γ τ false ops.toList rest S K → Conc C Φ L S a w → wpList P ops Q rest a w
  | [], S, a, w, Φ, L, h, hc => hK S Φ L a w h hc
  | o :: rest, S, a, w, Φ, L, h, hc => by
    simp only [areg] at h
    unfold wpList
    split at h
    · rename_i hg
      rw [if_pos (by simp [Region.wanted, hg])]
      refine .inl ?_
      split at h
      · rename_i r hr
        obtain ⟨v, h1, h2, h3⟩ := qany_ok hΓ hc.inv hr h.1 (fun x => aev_ok hc x)
        exact quiet_wp h3 fun w' hb => areg_seq hΓ hK (h.2 h2) ((hc.below hb).put (More.refl _) (fun _ _ h => h) (hc.inv.below hb) o.dst h1)
      · simp only [Bool.false_eq_true, if_false] at h
        split at h
        · rename_i r hr
          exact eop_ok hΓ hc.inv hr h.1 (fun x => aev_ok hc x) fun v w' ⟨Φ', L', hm, hL, hI, hv⟩ => areg_seq hΓ hK h.2 (hc.put hm hL hI o.dst hv)
        · split at h
          · rename_i r hr
            exact eopX_ok hΓ hc.inv hr h.1 (fun x => aev_ok hc x) fun v w' av hh ha ⟨Φ', L', hm, hL, hI, hv⟩ => areg_seq hΓ hK (ha _ h.2) (hc.put hm hL hI o.dst hv)
          · cases h
    · rename_i j want hg
      split at h
      · rename_i c hgc
        have hw := gcond_ok hc hgc hg
        split at h
        · rename_i r hr
          cases c with
          | true =>
            rw [if_pos hw]
            obtain ⟨v, h1, h2, h3⟩ := qany_ok hΓ hc.inv hr (h.1 rfl) (fun x => aev_ok hc x)
            refine .inl (quiet_wp h3 fun w' hb => areg_seq hΓ hK (h.2 fun _ => h2) ((hc.below hb).put (More.refl _) (fun _ _ h => h) (hc.inv.below hb) o.dst (.opt true _ _ (fun _ => h1) (fun h => by cases h))))
          | false =>
            rw [if_neg (by rw [hw]; simp)]
            exact areg_seq hΓ hK (h.2 fun h => by cases h) (hc.put (More.refl _) (fun _ _ h => h) hc.inv o.dst (.opt false _ _ (fun h => by cases h) (fun _ => rfl)))
        · simp only [Bool.false_eq_true, if_false] at h
          split at h
          · rename_i r hr
            cases c with
            | true =>
              rw [if_pos hw]
              obtain ⟨h1, h2⟩ := h.1 rfl
              exact .inl (eop_ok hΓ hc.inv hr h1 (fun x => aev_ok hc x) fun v w' ⟨Φ', L', hm, hL, hI, hv⟩ => areg_seq hΓ hK h2 (hc.put hm hL hI o.dst (.opt true _ _ (fun _ => hv) (fun h => by cases h))))
            | false =>
              rw [if_neg (by rw [hw]; simp)]
              exact areg_seq hΓ hK (h.2 rfl) (hc.put (More.refl _) (fun _ _ h => h) hc.inv o.dst (.opt false _ _ (fun h => by cases h) (fun _ => rfl)))
          · split at h
            · rename_i r hr
              cases c with
              | true =>
                rw [if_pos hw]
                obtain ⟨h1, h2⟩ := h.1 rfl
                exact .inl (eopX_ok hΓ hc.inv hr h1 (fun x => aev_ok hc x) fun v w' av hh ha ⟨Φ', L', hm, hL, hI, hv⟩ => areg_seq hΓ hK (ha _ h2) (hc.put hm hL hI o.dst (.opt true _ _ (fun _ => hv) (fun h => by cases h))))
              | false =>
                rw [if_neg (by rw [hw]; simp)]
                exact areg_seq hΓ hK (h.2 rfl) (hc.put (More.refl _) (fun _ _ h => h) hc.inv o.dst (.opt false _ _ (fun h => by cases h) (fun _ => rfl)))
            · cases h
      · cases h

theorem areg_draw (hΓ : CtrsOk P Γ) {ops : Array Oper} {K : St → Prop} :
    ∀ {rest : List Oper} {S : St} {a : Act}, areg P Γ τ true ops.toList rest S K → Conc C Φ L S a w → wpQuiet P ops (Below w.heap.size w) (fun a' => ∃ S', K S' ∧ Conc C Φ L S' a' w) rest a
  | [], S, a, h, hc => ⟨S, h, hc⟩
  | o :: rest, S, a, h, hc => by
    simp only [areg] at h
    unfold wpQuiet
    split at h
    · rename_i hg
      rw [if_pos (by simp [Region.wanted, hg])]
      split at h
      · rename_i r hr
        obtain ⟨v, h1, h2, h3⟩ := qany_ok hΓ hc.inv hr h.1 (fun x => aev_ok hc x)
        exact ⟨v, h3, areg_draw hΓ (h.2 h2) (hc.put (More.refl _) (fun _ _ h => h) hc.inv o.dst h1)⟩
      · simp only [if_true] at h
    · rename_i j want hg
      split at h
      · rename_i c hgc
        have hw := gcond_ok hc hgc hg
        split at h
        · rename_i r hr
          cases c with
          | true =>
            rw [if_pos hw]
            obtain ⟨v, h1, h2, h3⟩ := qany_ok hΓ hc.inv hr (h.1 rfl) (fun x => aev_ok hc x)
            exact ⟨v, h3, areg_draw hΓ (h.2 fun _ => h2) (hc.put (More.refl _) (fun _ _ h => h) hc.inv o.dst (.opt true _ _ (fun _ => h1) (fun h => by cases h)))⟩
          | false =>
            rw [if_neg (by rw [hw]; simp)]
            exact areg_draw hΓ (h.2 fun h => by cases h) (hc.put (More.refl _) (fun _ _ h => h) hc.inv o.dst (.opt false _ _ (fun h => by cases h) (fun _ => rfl)))
        · cases h
      · cases h

/-! ### A region that draws its order, by a plan -/

/-- What a region that draws keeps: the world but for what it may write. -/
def Sx (w0 : World) (W0 : List Nat) (w : World) : Prop := w0.heap.size ≤ w.heap.size ∧ ∀ b, b < w0.heap.size → b ∉ W0 → w.heap[b]? = w0.heap[b]?
def Rx (w0 : World) (W0 : List Nat) (Y : List Nat) (L : Locs) (H : List AObj) (w : World) : Prop :=
  Sx w0 W0 w ∧ (∀ i ∈ Y, i < H.length) ∧ ∀ (i : Nat) o g cap, i ∈ Y → H[i]? = some o → o.live = true → o.flat = true → L[i]? = some (some (g, cap)) → w0.heap.size ≤ g ∨ g ∈ W0

theorem Sx.below {w0 : World} {W0 : List Nat} {w w' : World} (h : Sx w0 W0 w) (hb : Below w.heap.size w w') : Sx w0 W0 w' :=
  ⟨Nat.le_trans h.1 hb.size, fun b hlt hW => by rw [hb.block b (Nat.lt_of_lt_of_le hlt h.1)]; exact h.2 b hlt hW⟩

theorem eop_step (hΓ : CtrsOk P Γ) {S : St} {a : Act} {o : Oper} {r : ER} {Y : List Nat} (h : eop P Γ τ (keepF (fun i => Y.contains i) 0 S.heap) (aev S) o.op = some r) (hp : r.pre) (hc : Conc C Φ L S a w)
    {w0 : World} {W0 : List Nat} (hR : Rx w0 W0 Y L S.heap w) {K' : Act → World → Prop} {Q : Exit → Act → World → Prop} {mk : AV → AV} (hmk : ∀ Φ' L' v, CVal Φ' L' r.av v → CVal Φ' L' (mk r.av) v)
    (hK : ∀ Φ' L' v w', Conc C Φ' L' ⟨setT S.tmps o.dst (mk r.av), mergeF (fun i => Y.contains i) 0 S.heap r.heap⟩ (a.put o.dst v) w' →
      Rx w0 W0 (Y ++ rng S.heap.length (r.heap.length - S.heap.length)) L' (mergeF (fun i => Y.contains i) 0 S.heap r.heap) w' → K' (a.put o.dst v) w') : o.wp P a w K' Q := by
  refine eop_ok hΓ (hc.inv.cut Y) h hp (fun x => aev_ok hc x) fun v w' ⟨Φ', L', hm, hL, hI, hv⟩ => ?_
  obtain ⟨hlen, hI'⟩ := hc.inv.paste hm hL hI
  refine hK Φ' L' v w' (hc.put hm hL hI' o.dst (hmk _ _ _ hv)) ⟨⟨Nat.le_trans hR.1.1 hI.size, fun b hlt hW => ?_⟩, fun i hi => ?_, fun i ob g cap hi ho hlv hfl hl => ?_⟩
  · rw [hI.keep b (Nat.lt_of_lt_of_le hlt hR.1.1) fun hm => ?_]
    · exact hR.1.2 b hlt hW
    · obtain ⟨j, hj, o', cap, h1, h2, h4, h3⟩ := cutW_mem.1 hm
      rcases hR.2.2 j o' b cap hj h1 h2 h4 h3 with e | e
      · omega
      · exact hW e
  · rw [mergeF_length hlen]
    rw [List.mem_append, mem_rng] at hi
    rcases hi with e | e
    · exact Nat.lt_of_lt_of_le (hR.2.1 i e) hlen
    · omega
  · have hcase : g ∈ cutW Y L S.heap ∨ w.heap.size ≤ g := by
      rw [mergeF_get hlen] at ho
      have hlater : r.heap[i]? = some ob → g ∈ cutW Y L S.heap ∨ w.heap.size ≤ g := fun ho => by
        rcases (hI.own i ob g cap ho hlv hl).2 with e | e
        · exact .inr e
        · exact .inl e
      split at ho
      · rename_i o' ho'
        split at ho
        · exact hlater ho
        · rename_i hcnd
          simp only [Option.some.injEq] at ho; subst ho
          have hnY : i ∉ Y := fun e => hcnd ⟨by simpa using e, hfl⟩
          have := (List.getElem?_eq_some_iff.1 ho').1
          rw [List.mem_append, mem_rng] at hi
          rcases hi with e | e
          · exact absurd e hnY
          · omega
      · exact hlater ho
    rcases hcase with e | e
    · obtain ⟨j, hj, o', cap', h1, h2, h4, h3⟩ := cutW_mem.1 e
      exact hR.2.2 j o' g cap' hj h1 h2 h4 h3
    · exact .inl (Nat.le_trans hR.1.1 e)

theorem eopX_step (hΓ : CtrsOk P Γ) {S : St} {a : Act} {o : Oper} {r : XR} {Y : List Nat} (h : eopX P Γ (keepF (fun i => Y.contains i) 0 S.heap) (aev S) o.op = some r) (hp : r.pre) (hc : Conc C Φ L S a w)
    {w0 : World} {W0 : List Nat} (hR : Rx w0 W0 Y L S.heap w) {K' : Act → World → Prop} {Q : Exit → Act → World → Prop} {mk : AV → AV} (hmk : ∀ Φ' L' av v, CVal Φ' L' av v → CVal Φ' L' (mk av) v)
    (hK : ∀ Φ' L' v w' av hh, (∀ K : AV → List AObj → Prop, r.all K → K av hh) → Conc C Φ' L' ⟨setT S.tmps o.dst (mk av), mergeF (fun i => Y.contains i) 0 S.heap hh⟩ (a.put o.dst v) w' →
      Rx w0 W0 (Y ++ rng S.heap.length (hh.length - S.heap.length)) L' (mergeF (fun i => Y.contains i) 0 S.heap hh) w' → K' (a.put o.dst v) w') : o.wp P a w K' Q := by
  refine eopX_ok hΓ (hc.inv.cut Y) h hp (fun x => aev_ok hc x) fun v w' av hh ha ⟨Φ', L', hm, hL, hI, hv⟩ => ?_
  obtain ⟨hlen, hI'⟩ := hc.inv.paste hm hL hI
  have hlen : S.heap.length ≤ hh.length := hlen
  refine hK Φ' L' v w' av hh ha (hc.put hm hL hI' o.dst (hmk _ _ _ _ hv)) ⟨⟨Nat.le_trans hR.1.1 hI.size, fun b hlt hW => ?_⟩, fun i hi => ?_, fun i ob g cap hi ho hlv hfl hl => ?_⟩
  · rw [hI.keep b (Nat.lt_of_lt_of_le hlt hR.1.1) fun hm => ?_]
    · exact hR.1.2 b hlt hW
    · obtain ⟨j, hj, o', cap, h1, h2, h4, h3⟩ := cutW_mem.1 hm
      rcases hR.2.2 j o' b cap hj h1 h2 h4 h3 with e | e
      · omega
      · exact hW e
  · rw [mergeF_length hlen]
    rw [List.mem_append, mem_rng] at hi
    rcases hi with e | e
    · exact Nat.lt_of_lt_of_le (hR.2.1 i e) hlen
    · omega
  · have hcase : g ∈ cutW Y L S.heap ∨ w.heap.size ≤ g := by
      rw [mergeF_get hlen] at ho
      have hlater : hh[i]? = some ob → g ∈ cutW Y L S.heap ∨ w.heap.size ≤ g := fun ho => by
        rcases (hI.own i ob g cap ho hlv hl).2 with e | e
        · exact .inr e
        · exact .inl e
      split at ho
      · rename_i o' ho'
        split at ho
        · exact hlater ho
        · rename_i hcnd
          simp only [Option.some.injEq] at ho; subst ho
          have hnY : i ∉ Y := fun e => hcnd ⟨by simpa using e, hfl⟩
          have := (List.getElem?_eq_some_iff.1 ho').1
          rw [List.mem_append, mem_rng] at hi
          rcases hi with e | e
          · exact absurd e hnY
          · omega
      · exact hlater ho
    rcases hcase with e | e
    · obtain ⟨j, hj, o', cap', h1, h2, h4, h3⟩ := cutW_mem.1 e
      exact hR.2.2 j o' g cap' hj h1 h2 h4 h3
    · exact .inl (Nat.le_trans hR.1.1 e)

theorem stepO_ok (hΓ : CtrsOk P Γ) {ops : Array Oper} {i : Nat} {o : Oper} (hi : ops[i]? = some o) {S : St} {Y : List Nat} {K : List Nat → St → Prop} {a : Act} (h : stepO P Γ τ ops Y o S K) (hc : Conc C Φ L S a w)
    {w0 : World} {W0 : List Nat} (hR : Rx w0 W0 Y L S.heap w)
    {K' : Act → World → Prop} {Q : Exit → Act → World → Prop} (hK : ∀ Y' S' Φ' L' a' w', K Y' S' → Conc C Φ' L' S' a' w' → Rx w0 W0 Y' L' S'.heap w' → K' a' w') : wpOp P ops Q i K' a w := by
  have hold : ∀ {L' : Locs} {H' : List AObj} {w' : World}, Below w.heap.size w w' → LiveLe S.heap H' → L'.length = H'.length → (∀ (i : Nat) x, L[i]? = some x → L'[i]? = some x) → Rx w0 W0 Y L' H' w' := fun {L' H' w'} hb hlive hlen hL =>
    ⟨hR.1.below hb, fun i hi => by
      have h1 := hR.2.1 i hi
      have h2 := hL i _ (List.getElem?_eq_getElem (by rw [hc.inv.len]; exact h1))
      rw [← hlen]; exact (List.getElem?_eq_some_iff.1 h2).1, fun i o g cap hy ho hlv hfl hl => by
      have hi := hR.2.1 i hy
      obtain ⟨o', h1, h2, h2f⟩ := hlive i o hi ho hlv
      have h3 := hL i _ (List.getElem?_eq_getElem (by rw [hc.inv.len]; exact hi))
      rw [hl] at h3
      exact hR.2.2 i o' g cap hy h1 h2 (h2f hfl) (by rw [List.getElem?_eq_getElem (by rw [hc.inv.len]; exact hi), h3])⟩
  unfold wpOp
  simp only [hi]
  unfold stepO at h
  split at h
  · rename_i hg
    rw [if_pos (by simp [Region.wanted, hg])]
    refine .inl ?_
    split at h
    · rename_i r hr
      obtain ⟨v, h1, h2, h3⟩ := qany_ok hΓ hc.inv hr h.1 (fun x => aev_ok hc x)
      exact quiet_wp h3 fun w' hb => hK _ _ _ _ _ _ (h.2 h2) ((hc.below hb).put (More.refl _) (fun _ _ h => h) (hc.inv.below hb) o.dst h1) (hold hb (.refl _) hc.inv.len fun _ _ h => h)
    · split at h
      · rename_i r hr
        exact eopN_ok hΓ hc.inv hr h.1 (fun x => aev_ok hc x) fun v w' ⟨Φ', L', hm, hL, hI, hv⟩ hb hlv => hK _ _ _ _ _ _ h.2 (hc.put hm hL hI o.dst hv) (hold hb hlv hI.len hL)
      · split at h
        · rename_i r hr
          exact eop_step hΓ (mk := id) hr h.1 hc hR (fun _ _ _ h => h) fun Φ' L' v w' hc' hR' => hK _ _ _ _ _ _ h.2 hc' hR'
        · split at h
          · rename_i r hr
            exact eopX_step hΓ (mk := id) hr h.1 hc hR (fun _ _ _ _ h => h) fun Φ' L' v w' av hh ha hc' hR' => hK _ _ _ _ _ _ (ha _ h.2) hc' hR'
          · cases h
  · rename_i j want hg
    split at h
    · rename_i c hgc
      have hw := gcond_ok hc hgc hg
      split at h
      · rename_i r hr
        cases c with
        | true =>
          rw [if_pos hw]
          obtain ⟨v, h1, h2, h3⟩ := qany_ok hΓ hc.inv hr (h.1 rfl) (fun x => aev_ok hc x)
          exact .inl (quiet_wp h3 fun w' hb => hK _ _ _ _ _ _ (h.2 fun _ => h2) ((hc.below hb).put (More.refl _) (fun _ _ h => h) (hc.inv.below hb) o.dst (.opt true _ _ (fun _ => h1) (fun h => by cases h))) (hold hb (.refl _) hc.inv.len fun _ _ h => h))
        | false =>
          rw [if_neg (by rw [hw]; simp)]
          exact hK _ _ _ _ _ _ (h.2 fun h => by cases h) (hc.put (More.refl _) (fun _ _ h => h) hc.inv o.dst (.opt false _ _ (fun h => by cases h) (fun _ => rfl))) hR
      · split at h
        · rename_i r hr
          cases c with
          | true =>
            rw [if_pos hw]
            obtain ⟨h1, h2⟩ := h.1 rfl
            exact .inl (eopN_ok hΓ hc.inv hr h1 (fun x => aev_ok hc x) fun v w' ⟨Φ', L', hm, hL, hI, hv⟩ hb hlv => hK _ _ _ _ _ _ h2 (hc.put hm hL hI o.dst (.opt true _ _ (fun _ => hv) (fun h => by cases h))) (hold hb hlv hI.len hL))
          | false =>
            rw [if_neg (by rw [hw]; simp)]
            exact hK _ _ _ _ _ _ (h.2 rfl) (hc.put (More.refl _) (fun _ _ h => h) hc.inv o.dst (.opt false _ _ (fun h => by cases h) (fun _ => rfl))) hR
        · split at h
          · rename_i r hr
            cases c with
            | true =>
              rw [if_pos hw]
              obtain ⟨h1, h2⟩ := h.1 rfl
              exact .inl (eopX_step hΓ (mk := .opt true) hr h1 hc hR (fun _ _ _ _ h => .opt true _ _ (fun _ => h) (fun h => by cases h)) fun Φ' L' v w' av hh ha hc' hR' => hK _ _ _ _ _ _ (ha _ h2) hc' hR')
            | false =>
              rw [if_neg (by rw [hw]; simp)]
              exact hK _ _ _ _ _ _ (h.2 rfl) (hc.put (More.refl _) (fun _ _ h => h) hc.inv o.dst (.opt false _ _ (fun h => by cases h) (fun _ => rfl))) hR
          · cases h
    · cases h

theorem stepT_ok {ops : Array Oper} {o : Oper} {S : St} {Y : List Nat} {K : St → Prop} {a : Act} (h : stepT P ops Y o S K) (hc : Conc C Φ L S a w) :
    ∃ v S', YieldsIf P ops (Sx w (cutW Y L S.heap)) o v a ∧ K S' ∧ S'.heap = S.heap ∧ Conc C Φ L S' (a.put o.dst v) w := by
  have hI2 : Inv C Φ L (keepG (fun i => !Y.contains i) 0 S.heap) w := by
    refine hc.inv.recast' (by rw [keepG_length]) fun i o' ho => ?_
    rw [keepG_get] at ho
    cases hi : S.heap[i]? with
    | none => rw [hi] at ho; simp at ho
    | some x =>
      rw [hi] at ho; simp only [Option.map_some, Option.some.injEq] at ho
      refine ⟨x, rfl, ?_⟩
      split at ho
      · exact .inl ho
      · exact .inr ho.symm
  have hag : ∀ w', Sx w (cutW Y L S.heap) w' → Agr Φ L (keepG (fun i => !Y.contains i) 0 S.heap) w w' := fun w' hs => by
    refine ⟨fun b ob hb => hs.2 b (lt_of_block (hc.inv.frz b ob hb)) fun hm => ?_, fun γ o' g cap ho hlv hl => ?_⟩
    · obtain ⟨j, _, o', cap, h1, h2, _, h3⟩ := cutW_mem.1 hm
      rw [(hc.inv.own j o' b cap h1 h2 h3).1] at hb; cases hb
    · rw [keepG_get] at ho
      cases hi : S.heap[γ]? with
      | none => rw [hi] at ho; simp at ho
      | some x =>
        rw [hi] at ho; simp only [Option.map_some, Option.some.injEq, Nat.zero_add] at ho
        split at ho
        · rename_i hnY
          subst ho
          refine hs.2 g (hc.inv.lt hi hlv hl) fun hm => ?_
          obtain ⟨j, hj, o', cap', h1, h2, _, h3⟩ := cutW_mem.1 hm
          exact hc.inv.inj γ j x o' g cap cap' (fun e => by subst e; simp at hnY; exact hnY hj) hi hlv h1 h2 hl h3
        · subst ho; cases hlv
  unfold stepT at h
  split at h
  · rename_i hg
    split at h
    · rename_i r hr
      obtain ⟨v, h1, h2, h3⟩ := qop_ok hr h.1 hI2 (fun x => aev_ok hc x)
      exact ⟨v, _, .inl ⟨by simp [Region.wanted, hg], fun w' hb => h3 w' (hag w' hb)⟩, h.2 h2, rfl, hc.put (More.refl _) (fun _ _ h => h) hc.inv o.dst h1⟩
    · cases h
  · rename_i j want hg
    split at h
    · rename_i c hgc
      have hw := gcond_ok hc hgc hg
      split at h
      · rename_i r hr
        cases c with
        | true =>
          obtain ⟨v, h1, h2, h3⟩ := qop_ok hr (h.1 rfl) hI2 (fun x => aev_ok hc x)
          exact ⟨v, _, .inl ⟨hw, fun w' hb => h3 w' (hag w' hb)⟩, h.2 fun _ => h2, rfl, hc.put (More.refl _) (fun _ _ h => h) hc.inv o.dst (.opt true _ _ (fun _ => h1) (fun h => by cases h))⟩
        | false =>
          exact ⟨_, _, .inr ⟨hw, rfl⟩, (h.2 fun h => by cases h), rfl, hc.put (More.refl _) (fun _ _ h => h) hc.inv o.dst (.opt false _ _ (fun h => by cases h) (fun _ => rfl))⟩
      · cases h
    · cases h

theorem aplan_ok (hΓ : CtrsOk P Γ) {ops : Array Oper} {K : St → Prop} {Q : Exit → Act → World → Prop} (hns : Region.noSelect ops = true) (hQ : ∀ c a w, ¬ Q (.panic c) a w)
    (hK : ∀ S' Φ' L' a' w', K S' → Conc C Φ' L' S' a' w' → Q .normal a' w') {w0 : World} {W0 : List Nat} :
    ∀ (p : Plan) (ph : Bool) (Y : List Nat) (n : Nat) (l : Array Bool) (S : St) (a : Act) (w : World) (Φ : Nat → Option Obj) (L : Locs), planB ops n l p = true → aplan P Γ τ ops ph Y p S K → Conc C Φ L S a w → Rx w0 W0 Y L S.heap w → (ph = true → w = w0 ∧ W0 = cutW Y L S.heap) →
      wpAnyH P .any ops Q (Sx w0 W0) n l a w
  | .done, ph, Y, n, l, S, a, w, Φ, L, hB, h, hc, hb, _ => by
    have h' : K S := by unfold aplan at h; exact h
    have hr : Region.ready .any ops l = [] := by cases n <;> simpa [planB] using hB
    exact wpAnyH_done hr (hK _ _ _ _ _ h' hc) n
  | .take i p, ph, Y, 0, l, S, a, w, Φ, L, hB, h, hc, hb, _ => by simp [planB] at hB
  | .one i p, ph, Y, 0, l, S, a, w, Φ, L, hB, h, hc, hb, _ => by simp [planB] at hB
  | .two i j p q, ph, Y, 0, l, S, a, w, Φ, L, hB, h, hc, hb, _ => by simp [planB] at hB
  | .take i p, false, Y, n + 1, l, S, a, w, Φ, L, hB, h, hc, hb, _ => by unfold aplan at h; exact h.elim
  | .take i p, true, Y, n + 1, l, S, a, w, Φ, L, hB, h, hc, hb, hw => by
    simp only [planB, Bool.and_eq_true] at hB
    unfold aplan at h
    split at h
    · rename_i o ho
      obtain ⟨v, S', h1, h2, h4, h3⟩ := stepT_ok h hc
      obtain ⟨hww, hWW⟩ := hw rfl
      subst hww
      rw [← hWW] at h1
      exact wpAnyH_take ho hns hB.1.1 hB.1.2 (fun c a w hq => (hQ _ _ _ hq).elim) h1 hb.1 (aplan_ok hΓ hns hQ hK p true Y n _ S' _ _ Φ L hB.2 h2 h3 (by rw [h4]; exact hb) fun _ => ⟨rfl, by rw [h4]; exact hWW⟩)
    · exact h.elim
  | .one i p, ph, Y, n + 1, l, S, a, w, Φ, L, hB, h, hc, hb, hw => by
    simp only [planB, Bool.and_eq_true, beq_iff_eq] at hB
    have h' : match ops[i]? with
      | some o => stepO P Γ τ ops Y o S fun Y' S' => aplan P Γ τ ops false Y' p S' K
      | none => False := by unfold aplan at h; exact h
    split at h'
    · rename_i o ho
      refine wpAnyH_all hB.1 (by simp) fun k hk => ?_
      simp only [List.mem_singleton] at hk; subst hk
      exact stepO_ok hΓ ho h' hc hb fun Y' S' Φ' L' a' w' hk hc' hb' => ⟨hb'.1, aplan_ok hΓ hns hQ hK p false Y' n _ S' _ _ Φ' L' hB.2 hk hc' hb' fun h => by cases h⟩
    · exact h'.elim
  | .two i j p q, ph, Y, n + 1, l, S, a, w, Φ, L, hB, h, hc, hb, hw => by
    simp only [planB, Bool.and_eq_true, beq_iff_eq] at hB
    have h' : (match ops[i]? with
      | some o => stepO P Γ τ ops Y o S fun Y' S' => aplan P Γ τ ops false Y' p S' K
      | none => False) ∧ (match ops[j]? with
      | some o => stepO P Γ τ ops Y o S fun Y' S' => aplan P Γ τ ops false Y' q S' K
      | none => False) := by unfold aplan at h; exact h
    obtain ⟨h1, h2⟩ := h'
    refine wpAnyH_all hB.1.1 (by simp) fun k hk => ?_
    simp only [List.mem_cons, List.not_mem_nil, or_false] at hk
    rcases hk with rfl | rfl
    · split at h1
      · rename_i o ho
        exact stepO_ok hΓ ho h1 hc hb fun Y' S' Φ' L' a' w' hk hc' hb' => ⟨hb'.1, aplan_ok hΓ hns hQ hK p false Y' n _ S' _ _ Φ' L' hB.1.2 hk hc' hb' fun h => by cases h⟩
      · exact h1.elim
    · split at h2
      · rename_i o ho
        exact stepO_ok hΓ ho h2 hc hb fun Y' S' Φ' L' a' w' hk hc' hb' => ⟨hb'.1, aplan_ok hΓ hns hQ hK q false Y' n _ S' _ _ Φ' L' hB.2 hk hc' hb' fun h => by cases h⟩
      · exact h2.elim

def LexOk (ops : Array Oper) : Prop := Region.lexB .any ops = true

def PlanOk (ops : Array Oper) (p : Plan) : Prop := (Region.noSelect ops && planB ops ops.size (Array.replicate ops.size false) p) = true

def ACode (P : Program) (C : Ctx) (Γ : Ctrs) (τ : TypeId → Option Ty) : Code → St → (AExit → St → Prop) → Prop
  | .skip, S, Q => Q .normal S
  | .region id ops draw, S, Q => match draw, Γ.pl id with
    | true, some (X, p) => PlanOk ops p ∧ (X.all (· < S.heap.length)) = true ∧ aplan P Γ.zz τ ops true X p S (Q .normal)
    | _, _ => (draw = true → LexOk ops) ∧ areg P Γ τ draw ops.toList ops.toList S (Q .normal)
  | .seq a b, S, Q => ACode P C Γ τ a S (thenQ (fun S' => ACode P C Γ τ b S' Q) Q)
  | .cond c x y, S, Q => match aev S c with
    | .bool b => (b = true → ACode P C Γ τ x S Q) ∧ (b = false → ACode P C Γ τ y S Q)
    | .ub p q => (p → ACode P C Γ τ x S Q) ∧ (q → ACode P C Γ τ y S Q)
    | _ => False
  | .block id c, S, Q => ACode P C Γ τ c S (blockQ id Q)
  | .loop c, S, Q => AWp P C (.loop c) S Q
  | .exit id, S, Q => Q (.exit id) S
  | .ret, S, Q => Q .ret S
  | .label _, S, Q => Q .normal S
  | _, _, _ => False

theorem ACode_ok (hΓ : CtrsOk P Γ) (hm : P.follows .mixedOrders = true) : ∀ (c : Code) (S : St) (Q : AExit → St → Prop), ACode P C Γ τ c S Q → AWp P C c S Q := by
  intro c
  induction c with
  | skip => intro S Q h; exact AWp_skip h
  | region id ops draw =>
    intro S Q h Φ L a w hc
    simp only [ACode] at h
    split at h
    · rename_i X p hp
      obtain ⟨hB, hX, h⟩ := h
      simp only [PlanOk, Bool.and_eq_true] at hB
      have hb1 : Below w.heap.size w { w with drawn := w.drawn + 1 } := ⟨rfl, rfl, rfl, Nat.le_refl _, fun _ _ => rfl⟩
      refine wp_region_held hm (aplan_ok hΓ.zz (W0 := cutW X L S.heap) hB.1 (fun c a w hq => ?_) (fun S' Φ' L' a' w' hk hc' => ⟨.normal, S', Φ', L', rfl, hk, hc'⟩) p true X _ _ S a _ Φ L hB.2 h (hc.below hb1) ⟨⟨Nat.le_refl _, fun _ _ _ => rfl⟩, fun i hi => by simpa using List.all_eq_true.1 hX i hi, fun i o g cap hi ho hlv hfl hl => .inr (cutW_mem.2 ⟨i, hi, o, cap, ho, hlv, hfl, hl⟩)⟩ fun _ => ⟨rfl, rfl⟩)
      obtain ⟨x, _, _, _, hx, _⟩ := hq
      cases x <;> cases hx
    rename_i dr _ _ _
    obtain ⟨hl, h⟩ := h
    cases dr with
    | false => exact wp_region_list (areg_seq hΓ (Q := Post C Q) (fun S' Φ' L' a' w' hk hc' => ⟨.normal, S', Φ', L', rfl, hk, hc'⟩) h hc)
    | true =>
      have hb1 : Below w.heap.size w { w with drawn := w.drawn + 1 } := ⟨rfl, rfl, rfl, Nat.le_refl _, fun _ _ => rfl⟩
      refine wp_region_quiet (C := Below w.heap.size w) hm (hl rfl) hb1 ?_
      have := areg_draw hΓ h hc
      have mono : ∀ {K K' : Act → Prop} (hk : ∀ a, K a → K' a) {rest : List Oper} {a : Act}, wpQuiet P ops (Below w.heap.size w) K rest a → wpQuiet P ops (Below w.heap.size w) K' rest a := by
        intro K K' hk rest
        induction rest with
        | nil => intro a h; exact hk _ h
        | cons o rest ih =>
          intro a h
          unfold wpQuiet at h ⊢
          split at h
          · rename_i hw; rw [if_pos hw]; obtain ⟨v, h1, h2⟩ := h; exact ⟨v, h1, ih h2⟩
          · rename_i hw; rw [if_neg hw]; exact ih h
      exact mono (fun a' ⟨S', hk, hc'⟩ w' hb => ⟨.normal, S', Φ, L, rfl, hk, hc'.below hb⟩) this
  | seq a b iha ihb =>
    intro S Q h
    refine AWp_seq ((iha S _ h).mono fun e S' hq => ?_)
    cases e with
    | normal => exact ihb S' Q hq
    | exit i => exact hq
    | ret => exact hq
  | cond c x y ihx ihy =>
    intro S Q h
    unfold ACode at h
    split at h
    · rename_i b hb
      exact AWp_cond hb (fun e => ihx S Q (h.1 e)) (fun e => ihy S Q (h.2 e))
    · rename_i p q hb
      exact AWp_cond_ub hb (fun e => ihx S Q (h.1 e)) (fun e => ihy S Q (h.2 e))
    · cases h
  | block id c ih => intro S Q h; exact AWp_block (ih S _ h)
  | loop c ih => intro S Q h; exact h
  | exit id => intro S Q h; exact AWp_exit h
  | ret => intro S Q h; exact AWp_ret h
  | label l => intro S Q h; exact AWp_label h
  | rangeFunc f ps a b => intro S Q h; cases h
  | scope b => intro S Q h; cases h
  | goto l => intro S Q h; cases h
  | refuse s => intro S Q h; cases h

/-! ### What a function hands back -/

/-- What stands in a cell of a result: a plain word; an array of the call's own; a slice of memory that is let alone. -/
inductive RT where
  | w
  | own (T : Ty) (e : TypeId)
  | dp (d : DT) (e : TypeId)
  | val (T : Ty)

inductive RS where
  | one (r : RT)
  | agg (rs : List RT)

abbrev Outs := List (Option Nat × AObj)

def expC (n : Nat) (H : List AObj) (bs : Outs) : RT → AV → Option (Prop × AV × Outs)
  | .w, .bool b => some (True, .bool b, bs)
  | .w, .int k n => some (True, .int k n, bs)
  | .w, .str s => some (True, .str s, bs)
  | .w, .nilp => some (True, .nilp, bs)
  | .w, .nili => some (True, .nili, bs)
  | .own T e, .osl β m => match H[β]? with
    | some (.arr T' e' xs) => if h : T' = T then
        if e' = e ∧ (bs.all fun b => b.1 != some β) = true then some (m = xs.length, .osl (n + bs.length) xs.length, bs ++ [(some β, .arr T e (castL h xs))]) else none
      else none
    | _ => none
  | .own T e, .nilsl => some (True, .osl (n + bs.length) 0, bs ++ [(none, .arr T e [])])
  | .dp d e, .osl β m => match H[β]? with
    | some (.deep d' e' xs) => if h : d' = d then
        if e' = e ∧ (bs.all fun b => b.1 != some β) = true then some (m = xs.length, .osl (n + bs.length) xs.length, bs ++ [(some β, .deep d e (castD h xs))]) else none
      else none
    | _ => none
  | .dp d e, .nilsl => some (True, .osl (n + bs.length) 0, bs ++ [(none, .deep d e [])])
  | .val T, .sl T' xs => if h : T' = T then some (True, .sl T (castL h xs), bs) else none
  | .val T, .nilsl => some (True, .sl T [], bs)
  | _, _ => none

def expCs (n : Nat) (H : List AObj) : Outs → List RT → List AV → Option (Prop × List AV × Outs)
  | bs, [], [] => some (True, [], bs)
  | bs, r :: rs, c :: cs => match expC n H bs r c with
    | some (p, c', bs') => match expCs n H bs' rs cs with
      | some (q, cs', bs'') => some (p ∧ q, c' :: cs', bs'')
      | none => none
    | none => none
  | _, _, _ => none

def expV (n : Nat) (H : List AObj) (bs : Outs) : RS → AV → Option (Prop × AV × Outs)
  | .one r, c => expC n H bs r c
  | .agg rs, .agg cs => match expCs n H bs rs cs with
    | some (p, cs', bs') => some (p, .agg cs', bs')
    | none => none
  | _, _ => none

def expVs (n : Nat) (H : List AObj) : Outs → List RS → List AV → Option (Prop × List AV × Outs)
  | bs, [], [] => some (True, [], bs)
  | bs, r :: rs, c :: cs => match expV n H bs r c with
    | some (p, c', bs') => match expVs n H bs' rs cs with
      | some (q, cs', bs'') => some (p ∧ q, c' :: cs', bs'')
      | none => none
    | none => none
  | _, _, _ => none

def locOf (L : Locs) : Option Nat × AObj → Option (Nat × Nat)
  | (some β, _) => (L[β]?).getD none
  | (none, _) => none

def outO (o : AObj) : Prop := (∃ T e xs, o = .arr T e xs) ∨ ∃ d e xs, o = .deep d e xs
theorem Dp.out {Φ Φ' : Nat → Option Obj} {L L' : Locs} {w : World} {l : Option (Nat × Nat)} {F : List Nat} {o : AObj} (ho : outO o) (h : Dp Φ L w l F o) : Dp Φ' L' w l F o := by
  rcases ho with ⟨T, e, xs, rfl⟩ | ⟨d, e, xs, rfl⟩ <;> exact h

/-- The names that are handed back are of arrays, none twice. -/
def Bs (H : List AObj) (bs : Outs) : Prop :=
  (∀ (i j : Nat) β o o', bs[i]? = some (some β, o) → bs[j]? = some (some β, o') → i = j) ∧ (∀ β o, (some β, o) ∈ bs → H[β]? = some o ∧ outO o) ∧ ∀ o, (none, o) ∈ bs → (∃ T e, o = .arr T e []) ∨ ∃ d e, o = .deep d e []

theorem mono_locs {Φ : Nat → Option Obj} {L0 L : Locs} {bs bs' : Outs} (h : ∃ r, bs' = bs ++ r) {c : AV} {v : Value} (hv : CVal Φ (L0 ++ bs.map (locOf L)) c v) : CVal Φ (L0 ++ bs'.map (locOf L)) c v := by
  obtain ⟨r, rfl⟩ := h
  refine hv.mono (More.refl _) fun i x hx => ?_
  rw [List.map_append, ← List.append_assoc, List.getElem?_append_left (List.getElem?_eq_some_iff.1 hx).1]; exact hx

theorem expC_ok (hI : Inv C Φ L H w) {L0 : Locs} {bs bs' : Outs} {rt : RT} {c c' : AV} {p : Prop} (h : expC L0.length H bs rt c = some (p, c', bs')) (hp : p) (hb : Bs H bs) {v : Value} (hv : CVal Φ L c v) :
    Bs H bs' ∧ (∃ r, bs' = bs ++ r) ∧ CVal Φ (L0 ++ bs'.map (locOf L)) c' v := by
  unfold expC at h
  split at h
  · simp only [Option.some.injEq, Prod.mk.injEq] at h; obtain ⟨_, rfl, rfl⟩ := h
    cases hv; exact ⟨hb, ⟨[], by simp⟩, .bool _⟩
  · simp only [Option.some.injEq, Prod.mk.injEq] at h; obtain ⟨_, rfl, rfl⟩ := h
    cases hv with | int _ _ h => exact ⟨hb, ⟨[], by simp⟩, .int _ _ h⟩
  · simp only [Option.some.injEq, Prod.mk.injEq] at h; obtain ⟨_, rfl, rfl⟩ := h
    cases hv with | str _ h => exact ⟨hb, ⟨[], by simp⟩, .str _ h⟩
  · simp only [Option.some.injEq, Prod.mk.injEq] at h; obtain ⟨_, rfl, rfl⟩ := h
    cases hv; exact ⟨hb, ⟨[], by simp⟩, .nilp⟩
  · simp only [Option.some.injEq, Prod.mk.injEq] at h; obtain ⟨_, rfl, rfl⟩ := h
    cases hv; exact ⟨hb, ⟨[], by simp⟩, .nili⟩
  · rename_i T e β m
    split at h
    · rename_i T' e' xs ho
      split at h
      · rename_i hT; subst hT
        split at h
        · rename_i hc
          obtain ⟨rfl, hnin⟩ := hc
          simp only [Option.some.injEq, Prod.mk.injEq, castL_rfl] at h
          obtain ⟨rfl, rfl, rfl⟩ := h
          subst hp
          have hnin' : ∀ b ∈ bs, b.1 ≠ some β := fun b hb' => by
            have := List.all_eq_true.1 hnin b hb'
            simpa using this
          refine ⟨⟨fun i j γ o o' hi hj => ?_, fun γ o hγ => ?_, fun o ho' => ?_⟩, ⟨[_], rfl⟩, ?_⟩
          · rcases get_snoc hi with ⟨hi1, hi2⟩ | ⟨hi1, hi2⟩
            · rcases get_snoc hj with ⟨hj1, hj2⟩ | ⟨hj1, hj2⟩
              · exact hb.1 i j γ o o' hi2 hj2
              · simp only [Prod.mk.injEq, Option.some.injEq] at hj2
                exact absurd (by rw [hj2.1]) (hnin' _ (List.mem_of_getElem? hi2))
            · rcases get_snoc hj with ⟨hj1, hj2⟩ | ⟨hj1, hj2⟩
              · simp only [Prod.mk.injEq, Option.some.injEq] at hi2
                exact absurd (by rw [hi2.1]) (hnin' _ (List.mem_of_getElem? hj2))
              · omega
          · rcases List.mem_append.1 hγ with hγ | hγ
            · exact hb.2.1 γ o hγ
            · simp only [List.mem_singleton, Prod.mk.injEq, Option.some.injEq] at hγ
              obtain ⟨rfl, rfl⟩ := hγ
              exact ⟨ho, .inl ⟨_, _, _, rfl⟩⟩
          · rcases List.mem_append.1 ho' with hγ | hγ
            · exact hb.2.2 o hγ
            · simp at hγ
          · have hidx : (L0 ++ (bs ++ [(some β, AObj.arr T' e' xs)]).map (locOf L))[L0.length + bs.length]? = some (locOf L (some β, AObj.arr T' e' xs)) := by
              rw [List.getElem?_append_right (by omega)]; simp
            cases hv with
            | osl _ _ g cap hl h1 h2 =>
              have : locOf L (some β, AObj.arr T' e' xs) = some (g, cap) := by simp [locOf, hl]
              rw [this] at hidx
              exact .osl _ _ g cap hidx h1 h2
            | oslnil _ _ hl h1 =>
              have : locOf L (some β, AObj.arr T' e' xs) = none := by simp [locOf, hl]
              rw [this] at hidx
              exact .oslnil _ _ hidx h1
        · cases h
      · cases h
    · cases h
  · rename_i T e
    simp only [Option.some.injEq, Prod.mk.injEq] at h
    obtain ⟨_, rfl, rfl⟩ := h
    refine ⟨⟨fun i j γ o o' hi hj => ?_, fun γ o hγ => ?_, fun o ho' => ?_⟩, ⟨[_], rfl⟩, ?_⟩
    · rcases get_snoc hi with ⟨hi1, hi2⟩ | ⟨hi1, hi2⟩
      · rcases get_snoc hj with ⟨hj1, hj2⟩ | ⟨hj1, hj2⟩
        · exact hb.1 i j γ o o' hi2 hj2
        · simp at hj2
      · simp at hi2
    · rcases List.mem_append.1 hγ with hγ | hγ
      · exact hb.2.1 γ o hγ
      · simp at hγ
    · rcases List.mem_append.1 ho' with hγ | hγ
      · exact hb.2.2 o hγ
      · simp at hγ; exact .inl ⟨T, e, hγ⟩
    · have hidx : (L0 ++ (bs ++ [((none : Option Nat), AObj.arr T e [])]).map (locOf L))[L0.length + bs.length]? = some none := by
        rw [List.getElem?_append_right (by omega)]; simp [locOf]
      cases hv
      exact .oslnil _ _ hidx rfl
  · rename_i d e β m
    split at h
    · rename_i d' e' xs ho
      split at h
      · rename_i hT; subst hT
        split at h
        · rename_i hc
          obtain ⟨rfl, hnin⟩ := hc
          simp only [Option.some.injEq, Prod.mk.injEq, castD_rfl] at h
          obtain ⟨rfl, rfl, rfl⟩ := h
          subst hp
          have hnin' : ∀ b ∈ bs, b.1 ≠ some β := fun b hb' => by
            have := List.all_eq_true.1 hnin b hb'
            simpa using this
          refine ⟨⟨fun i j γ o o' hi hj => ?_, fun γ o hγ => ?_, fun o ho' => ?_⟩, ⟨[_], rfl⟩, ?_⟩
          · rcases get_snoc hi with ⟨hi1, hi2⟩ | ⟨hi1, hi2⟩
            · rcases get_snoc hj with ⟨hj1, hj2⟩ | ⟨hj1, hj2⟩
              · exact hb.1 i j γ o o' hi2 hj2
              · simp only [Prod.mk.injEq, Option.some.injEq] at hj2
                exact absurd (by rw [hj2.1]) (hnin' _ (List.mem_of_getElem? hi2))
            · rcases get_snoc hj with ⟨hj1, hj2⟩ | ⟨hj1, hj2⟩
              · simp only [Prod.mk.injEq, Option.some.injEq] at hi2
                exact absurd (by rw [hi2.1]) (hnin' _ (List.mem_of_getElem? hj2))
              · omega
          · rcases List.mem_append.1 hγ with hγ | hγ
            · exact hb.2.1 γ o hγ
            · simp only [List.mem_singleton, Prod.mk.injEq, Option.some.injEq] at hγ
              obtain ⟨rfl, rfl⟩ := hγ
              exact ⟨ho, .inr ⟨_, _, _, rfl⟩⟩
          · rcases List.mem_append.1 ho' with hγ | hγ
            · exact hb.2.2 o hγ
            · simp at hγ
          · have hidx : (L0 ++ (bs ++ [(some β, AObj.deep d' e' xs)]).map (locOf L))[L0.length + bs.length]? = some (locOf L (some β, AObj.deep d' e' xs)) := by
              rw [List.getElem?_append_right (by omega)]; simp
            cases hv with
            | osl _ _ g cap hl h1 h2 =>
              have : locOf L (some β, AObj.deep d' e' xs) = some (g, cap) := by simp [locOf, hl]
              rw [this] at hidx
              exact .osl _ _ g cap hidx h1 h2
            | oslnil _ _ hl h1 =>
              have : locOf L (some β, AObj.deep d' e' xs) = none := by simp [locOf, hl]
              rw [this] at hidx
              exact .oslnil _ _ hidx h1
        · cases h
      · cases h
    · cases h
  · rename_i d e
    simp only [Option.some.injEq, Prod.mk.injEq] at h
    obtain ⟨_, rfl, rfl⟩ := h
    refine ⟨⟨fun i j γ o o' hi hj => ?_, fun γ o hγ => ?_, fun o ho' => ?_⟩, ⟨[_], rfl⟩, ?_⟩
    · rcases get_snoc hi with ⟨hi1, hi2⟩ | ⟨hi1, hi2⟩
      · rcases get_snoc hj with ⟨hj1, hj2⟩ | ⟨hj1, hj2⟩
        · exact hb.1 i j γ o o' hi2 hj2
        · simp at hj2
      · simp at hi2
    · rcases List.mem_append.1 hγ with hγ | hγ
      · exact hb.2.1 γ o hγ
      · simp at hγ
    · rcases List.mem_append.1 ho' with hγ | hγ
      · exact hb.2.2 o hγ
      · simp at hγ; exact .inr ⟨d, e, hγ⟩
    · have hidx : (L0 ++ (bs ++ [((none : Option Nat), AObj.deep d e [])]).map (locOf L))[L0.length + bs.length]? = some none := by
        rw [List.getElem?_append_right (by omega)]; simp [locOf]
      cases hv
      exact .oslnil _ _ hidx rfl
  · rename_i T T' xs
    split at h
    · rename_i hT; subst hT
      simp only [Option.some.injEq, Prod.mk.injEq, castL_rfl] at h; obtain ⟨_, rfl, rfl⟩ := h
      cases hv with | sl _ _ _ h => exact ⟨hb, ⟨[], by simp⟩, .sl _ _ _ h⟩
    · cases h
  · simp only [Option.some.injEq, Prod.mk.injEq] at h; obtain ⟨_, rfl, rfl⟩ := h
    cases hv
    exact ⟨hb, ⟨[], by simp⟩, .sl _ _ _ ⟨none, 0, rfl, by simp, Nat.zero_le _, .inl rfl⟩⟩
  · cases h

theorem expCs_ok (hI : Inv C Φ L H w) {L0 : Locs} : ∀ {rs : List RT} {cs cs' : List AV} {bs bs' : Outs} {p : Prop}, expCs L0.length H bs rs cs = some (p, cs', bs') → p → Bs H bs → ∀ {vs : List Value}, vs.length = cs.length → (∀ (i : Nat) c v, cs[i]? = some c → vs[i]? = some v → CVal Φ L c v) →
      Bs H bs' ∧ (∃ r, bs' = bs ++ r) ∧ vs.length = cs'.length ∧ ∀ (i : Nat) c v, cs'[i]? = some c → vs[i]? = some v → CVal Φ (L0 ++ bs'.map (locOf L)) c v
  | [], [], cs', bs, bs', p, h, hp, hb, vs, hl, hv => by
    simp only [expCs, Option.some.injEq, Prod.mk.injEq] at h
    obtain ⟨_, rfl, rfl⟩ := h
    exact ⟨hb, ⟨[], by simp⟩, hl, fun i c v h => by simp at h⟩
  | [], _ :: _, cs', bs, bs', p, h, hp, hb, vs, hl, hv => by simp [expCs] at h
  | _ :: _, [], cs', bs, bs', p, h, hp, hb, vs, hl, hv => by simp [expCs] at h
  | r :: rs, c :: cs, cs', bs, bs', p, h, hp, hb, [], hl, hv => by simp at hl
  | r :: rs, c :: cs, cs', bs, bs', p, h, hp, hb, v :: vs, hl, hv => by
    simp only [expCs] at h
    split at h
    · rename_i p1 c1 bs1 h1
      split at h
      · rename_i q cs1 bs2 h2
        simp only [Option.some.injEq, Prod.mk.injEq] at h
        obtain ⟨rfl, rfl, rfl⟩ := h
        obtain ⟨e1, ⟨r1, e2⟩, e3⟩ := expC_ok hI h1 hp.1 hb (hv 0 c v rfl rfl)
        obtain ⟨e4, ⟨r2, e5⟩, e6, e7⟩ := expCs_ok hI h2 hp.2 e1 (vs := vs) (by simpa using hl) (fun i c v hc hv' => hv (i + 1) c v (by simpa using hc) (by simpa using hv'))
        refine ⟨e4, ⟨r1 ++ r2, by rw [e5, e2]; simp⟩, by simp [e6], fun i x u hx hu => ?_⟩
        cases i with
        | zero => simp at hx hu; subst hx; subst hu; exact mono_locs ⟨r2, e5⟩ e3
        | succ i => exact e7 i x u (by simpa using hx) (by simpa using hu)
      · cases h
    · cases h

theorem expV_ok (hI : Inv C Φ L H w) {L0 : Locs} {bs bs' : Outs} {rs : RS} {c c' : AV} {p : Prop} (h : expV L0.length H bs rs c = some (p, c', bs')) (hp : p) (hb : Bs H bs) {v : Value} (hv : CVal Φ L c v) :
    Bs H bs' ∧ (∃ r, bs' = bs ++ r) ∧ CVal Φ (L0 ++ bs'.map (locOf L)) c' v := by
  unfold expV at h
  split at h
  · exact expC_ok hI h hp hb hv
  · rename_i rts cs
    split at h
    · rename_i q cs' bs2 h1
      simp only [Option.some.injEq, Prod.mk.injEq] at h
      obtain ⟨rfl, rfl, rfl⟩ := h
      cases hv with
      | agg _ vs h2 h3 h4 =>
        obtain ⟨e1, e2, e3, e4⟩ := expCs_ok hI h1 hp hb (vs := vs.toList) (by simpa using h2) (fun i c v hc hv => h4 i c v hc (by simpa using hv))
        exact ⟨e1, e2, .agg _ vs (by simpa using e3) h3 fun i c v hc hv => e4 i c v hc (by simpa using hv)⟩
    · cases h
  · cases h

theorem expVs_ok (hI : Inv C Φ L H w) {L0 : Locs} : ∀ {rs : List RS} {cs cs' : List AV} {bs bs' : Outs} {p : Prop}, expVs L0.length H bs rs cs = some (p, cs', bs') → p → Bs H bs → ∀ {vs : List Value}, vs.length = cs.length → (∀ (i : Nat) c v, cs[i]? = some c → vs[i]? = some v → CVal Φ L c v) →
      Bs H bs' ∧ (∃ r, bs' = bs ++ r) ∧ vs.length = cs'.length ∧ ∀ (i : Nat) c v, cs'[i]? = some c → vs[i]? = some v → CVal Φ (L0 ++ bs'.map (locOf L)) c v
  | [], [], cs', bs, bs', p, h, hp, hb, vs, hl, hv => by
    simp only [expVs, Option.some.injEq, Prod.mk.injEq] at h
    obtain ⟨_, rfl, rfl⟩ := h
    exact ⟨hb, ⟨[], by simp⟩, hl, fun i c v h => by simp at h⟩
  | [], _ :: _, cs', bs, bs', p, h, hp, hb, vs, hl, hv => by simp [expVs] at h
  | _ :: _, [], cs', bs, bs', p, h, hp, hb, vs, hl, hv => by simp [expVs] at h
  | r :: rs, c :: cs, cs', bs, bs', p, h, hp, hb, [], hl, hv => by simp at hl
  | r :: rs, c :: cs, cs', bs, bs', p, h, hp, hb, v :: vs, hl, hv => by
    simp only [expVs] at h
    split at h
    · rename_i p1 c1 bs1 h1
      split at h
      · rename_i q cs1 bs2 h2
        simp only [Option.some.injEq, Prod.mk.injEq] at h
        obtain ⟨rfl, rfl, rfl⟩ := h
        obtain ⟨e1, ⟨r1, e2⟩, e3⟩ := expV_ok hI h1 hp.1 hb (hv 0 c v rfl rfl)
        obtain ⟨e4, ⟨r2, e5⟩, e6, e7⟩ := expVs_ok hI h2 hp.2 e1 (vs := vs) (by simpa using hl) (fun i c v hc hv' => hv (i + 1) c v (by simpa using hc) (by simpa using hv'))
        refine ⟨e4, ⟨r1 ++ r2, by rw [e5, e2]; simp⟩, by simp [e6], fun i x u hx hu => ?_⟩
        cases i with
        | zero => simp at hx hu; subst hx; subst hu; exact mono_locs ⟨r2, e5⟩ e3
        | succ i => exact e7 i x u (by simpa using hx) (by simpa using hu)
      · cases h
    · cases h

/-- The words of the results. -/
def retAV (P : Program) (S : St) : List ResultVar → Option (Prop × List AV)
  | [] => some (True, [])
  | .tmp t :: r => match retAV P S r with
    | some (p, vs) => some ((sv (aev S (.tmp t))).1 = true ∧ p, (sv (aev S (.tmp t))).2 :: vs)
    | none => none
  | .cell a t :: r => match tinfo P t with
    | some ti => match loadQ ti S.heap (aev S (.tmp a)) with
      | some q => match retAV P S r with
        | some (p, vs) => some (q.pre ∧ p, q.av :: vs)
        | none => none
      | none => none
    | none => none

def oneOr : List AV → AV
  | [v] => v
  | vs => .tup vs

def retQ (P : Program) (rs : List ResultVar) (rts : List RS) (n : Nat) (res : AV) (objs : List AObj) (e : AExit) (S : St) : Prop :=
  match e with
  | .exit _ => False
  | _ => match retAV P S rs with
    | some (p, vs) => match expVs n S.heap [] rts vs with
      | some (q, r, bs) => p ∧ q ∧ oneOr r = res ∧ bs.map (·.2) = objs
      | none => False
    | none => False

theorem retAV_ok {S : St} {a : Act} (hc : Conc C Φ L S a w) : ∀ {rs : List ResultVar} {p : Prop} {vs : List AV}, retAV P S rs = some (p, vs) → p →
    ∃ us : List Value, us.length = vs.length ∧ (∀ (i : Nat) c v, vs[i]? = some c → us[i]? = some v → CVal Φ L c v) ∧
      (rs.mapM fun | .tmp t => pure (a.tmps.getD t undef) | .cell x t => do loadVar t (← asAddr (a.tmps.getD x undef)) : Sem (List Value)).run P w = .ok us w
  | [], p, vs, h, hp => by
    simp only [retAV, Option.some.injEq, Prod.mk.injEq] at h
    obtain ⟨_, rfl⟩ := h
    exact ⟨[], rfl, fun i c v h => by simp at h, by simp⟩
  | .tmp t :: r, p, vs, h, hp => by
    simp only [retAV] at h
    split at h
    · rename_i q ws hr
      simp only [Option.some.injEq, Prod.mk.injEq] at h
      obtain ⟨rfl, rfl⟩ := h
      obtain ⟨us, h1, h2, h3⟩ := retAV_ok hc hr hp.2
      have hv := sv_ok (aev_ok hc (.tmp t)) hp.1
      refine ⟨a.eval (.tmp t) :: us, by simp [h1], fun i c v hx hu => ?_, ?_⟩
      · cases i with
        | zero => simp at hx hu; subst hx; subst hu; exact hv
        | succ i => exact h2 i c v (by simpa using hx) (by simpa using hu)
      · simp only [List.mapM_cons, Sem.run_bind, Sem.run_pure, Result.andThen_ok, h3, Act.eval]
    · cases h
  | .cell x t :: r, p, vs, h, hp => by
    simp only [retAV] at h
    split at h
    · rename_i ti ht
      split at h
      · rename_i q hq
        split at h
        · rename_i q' ws hr
          simp only [Option.some.injEq, Prod.mk.injEq] at h
          obtain ⟨rfl, rfl⟩ := h
          obtain ⟨us, h1, h2, h3⟩ := retAV_ok hc hr hp.2
          obtain ⟨u, h4, _, h5⟩ := loadQ_ok ht hq hp.1 hc.inv (aev_ok hc (.tmp x))
          have h5 := h5 w Agr.refl
          refine ⟨u :: us, by simp [h1], fun i c v hx hu => ?_, ?_⟩
          · cases i with
            | zero => simp at hx hu; subst hx; subst hu; exact h4
            | succ i => exact h2 i c v (by simpa using hx) (by simpa using hu)
          · have hptr : ∃ ad, a.tmps.getD x undef = .pointer (some ad) := by
              have hx := aev_ok hc (.tmp x)
              simp only [Act.eval] at hx
              generalize a.tmps.getD x undef = z at hx
              unfold loadQ at hq
              split at hq <;> first | (cases hq; done) | skip
              all_goals (rename_i heq; rw [heq] at hx; cases hx; exact ⟨_, rfl⟩)
            obtain ⟨ad, had⟩ := hptr
            have e : (do loadVar t (← asAddr (a.tmps.getD x undef)) : Sem Value).run P w = .ok u w := by
              simp only [Act.eval, had, Instr.loadAt, Instr.sureAddr, Sem.run_bind, Sem.run_pure, Result.andThen_ok] at h5
              rw [had]
              simp only [asAddr, Sem.run_bind, Sem.run_pure, Result.andThen_ok, h5]
            simp only [List.mapM_cons]
            rw [Sem.run_bind, e]
            simp only [Result.andThen_ok, Sem.run_bind, h3, Sem.run_pure]
        · cases h
      · cases h
    · cases h

/-- The facts of an argument. -/
def wfCs : List AV → Prop
  | [] => True
  | c :: cs => (match c with
    | .int k n => inR k n
    | .str s => s.length ≤ 9223372036854775807
    | .sl T xs => Wf (.sl T) xs
    | _ => True) ∧ wfCs cs

def wfA : AV → Prop
  | .int k n => inR k n
  | .str s => s.length ≤ 9223372036854775807
  | .sl T xs => Wf (.sl T) xs
  | .agg cs => wfCs cs
  | _ => True

theorem wfCs_ok : ∀ {cs : List AV} {vs : List Value}, vs.length = cs.length → (∀ (i : Nat) c v, cs[i]? = some c → vs[i]? = some v → CVal Φ L c v) → wfCs cs
  | [], _, _, _ => trivial
  | c :: cs, [], hl, _ => by simp at hl
  | c :: cs, v :: vs, hl, h => by
    refine ⟨?_, wfCs_ok (vs := vs) (by simpa using hl) fun i c v h1 h2 => h (i + 1) c v (by simpa using h1) (by simpa using h2)⟩
    have h0 := h 0 c v rfl rfl
    cases h0 <;> first | trivial | assumption | (rename_i hr; exact hr.wf)

theorem wfA_ok {c : AV} {v : Value} (h : CVal Φ L c v) : wfA c := by
  cases h <;> first | trivial | assumption | (rename_i hr; exact hr.wf) | skip
  · rename_i cs vs h1 h2 h3
    exact wfCs_ok (vs := vs.toList) (by simpa using h1) fun i c v hc hv => h3 i c v hc (by simpa using hv)

def wfArgs : List AV → Prop
  | [] => True
  | c :: cs => wfA c ∧ wfArgs cs

theorem wfArgs_ok : ∀ {cs : List AV} {vs : List Value}, vs.length = cs.length → (∀ (i : Nat) c v, cs[i]? = some c → vs[i]? = some v → CVal Φ L c v) → wfArgs cs
  | [], _, _, _ => trivial
  | c :: cs, [], hl, _ => by simp at hl
  | c :: cs, v :: vs, hl, h =>
    ⟨wfA_ok (h 0 c v rfl rfl), wfArgs_ok (vs := vs) (by simpa using hl) fun i c v h1 h2 => h (i + 1) c v (by simpa using h1) (by simpa using h2)⟩

/-- A contract, by a walk of the body. -/
theorem FnOk_intro {f : FuncId} {fn : Func} {c : Code} {args : List AV} {n : Nat} {res : AV} {objs : List AObj} (rts : List RS) (hf : P.funcs[f]? = some fn) (hb : fn.body = some c)
    (h : wfArgs args → ∀ C : Ctx, C.W = [] ∧ C.L0 = [] → AWp P C c ⟨args ++ List.replicate (fn.ntmps - args.length) .any, []⟩ (retQ P fn.results.toList rts n res objs)) : FnOk P f args n res objs := by
  intro w Φ L0 vs hL0 hΦ hgl hsz hv
  refine calls_of_wp hf hb ?_
  have hwf := wfArgs_ok (vs := vs.toList) (by simpa using hsz) (fun i c v hc hv' => hv i c v hc (by simpa using hv'))
  have hconc : Conc ⟨w, Φ, [], []⟩ Φ [] ⟨args ++ List.replicate (fn.ntmps - args.length) .any, []⟩ { tmps := vs ++ Array.replicate (fn.ntmps - vs.size) undef, defers := [] } w := by
    refine ⟨rfl, by simp [hsz], fun i c v hc hu => ?_, ?_⟩
    · by_cases hi : i < args.length
      · rw [List.getElem?_append_left hi] at hc
        simp only at hu
        rw [Array.getElem?_append_left (by omega)] at hu
        exact hv i c v hc hu
      · rw [List.getElem?_append_right (by omega)] at hc
        have := List.mem_of_getElem? hc
        simp at this
        rw [this.2]; exact .any _
    · exact ⟨⟨rfl, hΦ, More.refl _, hgl, fun b o h => .inl h, rfl, rfl, rfl, Nat.le_refl _, fun _ _ _ => rfl, fun γ o h => by simp at h, fun γ o g cap h => by simp at h, fun γ δ o o' g cap cap' _ h => by simp at h, fun i x h => by simp at h⟩, fun _ => [], fun γ o h => by simp at h⟩
  refine Code.wp_mono ?_ (h hwf ⟨w, Φ, [], []⟩ ⟨rfl, rfl⟩ Φ [] _ w hconc)
  rintro e a' w' ⟨x, S, Φ', L', rfl, hq, hc⟩
  have key : a'.defers = [] ∧ ∃ v, (results fn a'.tmps).run P w' = .ok v w' ∧ ∃ v' Φ'' Ln, (Ending.returned v) = .returned v' ∧ Below w.heap.size w w' ∧ More Φ Φ'' ∧ (∀ b o, Φ'' b = some o → w'.heap[b]? = some o) ∧ (∀ b o, Φ'' b = some o → Φ b = some o ∨ w.heap.size ≤ b) ∧
      NewObjs Φ'' n Ln objs w w' L0 ∧ CVal Φ'' (L0 ++ Ln) res v' := by
    have hq' : match retAV P S fn.results.toList with
        | some (p, vs) => match expVs n S.heap [] rts vs with
          | some (q, r, bs) => p ∧ q ∧ oneOr r = res ∧ bs.map (·.2) = objs
          | none => False
        | none => False := by
      cases x with
      | exit i => exact hq.elim
      | normal => exact hq
      | ret => exact hq
    clear hq
    split at hq'
    · rename_i p us hret
      split at hq'
      · rename_i q r bs hexp
        obtain ⟨hp, hq, rfl, rfl⟩ := hq'
        obtain ⟨zs, hzl, hzc, hzr⟩ := retAV_ok hc hret hp
        have hres : (results fn a'.tmps).run P w' = .ok (if h : zs.toArray.size = 1 then zs.toArray[0] else .tuple zs.toArray) w' := by
          unfold results
          rw [Sem.run_bind, Array.mapM_eq_mapM_toList, Sem.run_map]
          exact congrArg (fun r : Result (List Value) => (r.andThen fun a w' => Result.ok a.toArray w').andThen fun a w' => Sem.run P (pure (if h : a.size = 1 then a[0] else Value.tuple a)) w') hzr
        have hb0 : Bs S.heap [] := ⟨fun i j β o o' h => by simp at h, fun β o h => by simp at h, fun o h => by simp at h⟩
        obtain ⟨hB, _, hrl, hrc⟩ := expVs_ok (L0 := L0) hc.inv (by rw [hL0]; exact hexp) hq hb0 hzl hzc
        have hone : CVal Φ' (L0 ++ bs.map (locOf L')) (oneOr r) (if h : zs.toArray.size = 1 then zs.toArray[0] else .tuple zs.toArray) := by
          unfold oneOr
          split
          · rename_i v
            obtain ⟨z, rfl⟩ := List.length_eq_one_iff.1 hrl
            exact hrc 0 v z rfl rfl
          · rename_i hne
            have : ¬ zs.toArray.size = 1 := by
              simp only [List.size_toArray, hrl]
              intro e
              obtain ⟨v, rfl⟩ := List.length_eq_one_iff.1 e
              exact hne v rfl
            rw [dif_neg this]
            exact .tup _ _ (by simpa using hrl) fun i c v hx hu => hrc i c v hx (by simpa using hu)
        -- an entry of the list
        have hent : ∀ (i : Nat) b, bs[i]? = some b → ∃ l, locOf L' b = l ∧ ObjOk Φ' L' w' l b.2 ∧ outO b.2 ∧ ∀ g cap, l = some (g, cap) → ∃ β, b.1 = some β ∧ S.heap[β]? = some b.2 ∧ L'[β]? = some (some (g, cap)) := fun i b hbi => by
          have hmem := List.mem_of_getElem? hbi
          obtain ⟨bn, o⟩ := b
          cases bn with
          | none =>
            rcases hB.2.2 o hmem with ⟨T, e, rfl⟩ | ⟨d, e, rfl⟩
            · exact ⟨none, rfl, ⟨[], World.ownsRow_nil w' 0 e T.size, rfl⟩, .inl ⟨T, e, [], rfl⟩, fun g cap h => by simp at h⟩
            · exact ⟨none, rfl, ⟨[], World.ownsRow_nil w' 0 e d.ty.size⟩, .inr ⟨d, e, [], rfl⟩, fun g cap h => by simp at h⟩
          | some β =>
            obtain ⟨h1, h2⟩ := hB.2.1 β o hmem
            obtain ⟨l, hl, hk⟩ := hc.inv.obj β o h1
            exact ⟨l, by simp [locOf, hl], hk, h2, fun g cap h => ⟨β, rfl, h1, by rw [hl, h]⟩⟩
        have hind : ∀ {l : Option (Nat × Nat)} {o : AObj} {L1 L2 : Locs}, outO o → ObjOk Φ' L1 w' l o → ObjOk Φ' L2 w' l o := by
          rintro l o L1 L2 (⟨T, e, xs, rfl⟩ | ⟨d, e, xs, rfl⟩) h
          · exact h
          · exact h
        have hdeep : NewDeep Φ' (bs.map (locOf L')) (bs.map (·.2)) w w' L0 := by
          obtain ⟨F, hF⟩ := hc.inv.deep
          obtain ⟨G, hG0, hG1⟩ : ∃ G : Nat → List Nat, (∀ (i : Nat) o, bs[i]? = some (none, o) → G i = []) ∧ ∀ (i : Nat) β o, bs[i]? = some (some β, o) → G i = F β :=
            ⟨fun i => match bs[i]? with
            | some (some β, _) => F β
            | _ => [], fun i o h => by simp only [h], fun i β o h => by simp only [h]⟩
          refine ⟨G, fun i o ho hlv => ?_⟩
          rw [List.getElem?_map] at ho
          cases hbi : bs[i]? with
          | none => rw [hbi] at ho; simp at ho
          | some b =>
            rw [hbi] at ho; simp at ho; subst ho
            have hmem := List.mem_of_getElem? hbi
            obtain ⟨bn, o⟩ := b
            cases bn with
            | none =>
              rw [hG0 i o hbi]
              refine ⟨⟨none, by simp [hbi, locOf], ?_⟩, List.nodup_nil, by simp, by simp, by simp⟩
              rcases hB.2.2 o hmem with ⟨T, e, rfl⟩ | ⟨d, e, rfl⟩
              · rfl
              · exact ⟨[], World.ownsRow_nil w' 0 e d.ty.size, rfl, rfl⟩
            | some β =>
              obtain ⟨h1, h2⟩ := hB.2.1 β o hmem
              have kk := hF β o h1 hlv
              obtain ⟨l, a1, a2⟩ := kk.is
              rw [hG1 i β o hbi]
              refine ⟨⟨l, by simp [hbi, locOf, a1], a2.out h2⟩, kk.nd, fun b hb => ⟨by simpa using kk.old b hb, kk.lt b hb, kk.fr b hb⟩, fun b hb j o' cap ho' hlv' e => ?_, fun j o' hne ho' hlv' b hb hb2 => ?_⟩
              · rw [List.getElem?_map] at ho' e
                cases hbj : bs[j]? with
                | none => rw [hbj] at ho'; simp at ho'
                | some x =>
                  rw [hbj] at ho' e; simp at ho' e; subst ho'
                  obtain ⟨l', hl', _, _, hn'⟩ := hent j x hbj
                  obtain ⟨δ, hδ, h1', h2'⟩ := hn' b cap (by rw [← hl']; exact e)
                  exact kk.hd b hb δ _ cap h1' hlv' h2'
              · rw [List.getElem?_map] at ho'
                cases hbj : bs[j]? with
                | none => rw [hbj] at ho'; simp at ho'
                | some x =>
                  rw [hbj] at ho'; simp at ho'; subst ho'
                  obtain ⟨xn, o2⟩ := x
                  cases xn with
                  | none => rw [hG0 j o2 hbj] at hb2; cases hb2
                  | some δ =>
                    rw [hG1 j δ o2 hbj] at hb2
                    obtain ⟨g1, g2⟩ := hB.2.1 δ o2 (List.mem_of_getElem? hbj)
                    exact kk.dj δ o2 (fun e => by subst e; exact hne (hB.1 j i δ _ _ hbj hbi)) g1 hlv' b hb hb2
        refine ⟨hc.defers, _, hres, _, Φ', bs.map (locOf L'), rfl, ⟨hc.inv.os, hc.inv.tape, hc.inv.output, hc.inv.size, fun k hk => hc.inv.keep k hk (by simp)⟩, hc.inv.base, hc.inv.frz, fun b o hb => ?_, ⟨by simp, fun i o ho => ?_, fun i o g cap ho ho2 hlg => ?_, fun i j o o' g cap cap' hne ho hlv ho' hlv' e1 e2 => ?_, hdeep⟩, hone⟩
        · rcases hc.inv.fresh b o hb with h | h | h
          · exact .inl h
          · exact .inr h
          · simp at h
        · rw [List.getElem?_map] at ho ⊢
          cases hbi : bs[i]? with
          | none => rw [hbi] at ho; simp at ho
          | some b =>
            rw [hbi] at ho; simp at ho; subst ho
            obtain ⟨l, hl, hk, hlv, _⟩ := hent i b hbi
            exact ⟨l, by simp [hl], hind hlv hk⟩
        · rw [List.getElem?_map] at ho hlg
          cases hbi : bs[i]? with
          | none => rw [hbi] at ho; simp at ho
          | some b =>
            rw [hbi] at ho hlg; simp at ho hlg; subst ho
            obtain ⟨l, hl, hk, hlv, hn⟩ := hent i b hbi
            obtain ⟨β, _, h1, h2⟩ := hn g cap (by rw [← hl]; exact hlg)
            obtain ⟨h3, h4⟩ := hc.inv.own β _ g cap h1 ho2 h2
            exact ⟨h3, by simpa using h4⟩
        · rw [List.getElem?_map] at ho ho' e1 e2
          cases hbi : bs[i]? with
          | none => rw [hbi] at ho; simp at ho
          | some b =>
            cases hbj : bs[j]? with
            | none => rw [hbj] at ho'; simp at ho'
            | some d =>
              rw [hbi] at ho e1; rw [hbj] at ho' e2; simp at ho ho' e1 e2
              subst ho; subst ho'
              obtain ⟨l, hl, _, _, hn⟩ := hent i b hbi
              obtain ⟨l', hl', _, _, hn'⟩ := hent j d hbj
              obtain ⟨β, hβ, h1, h2⟩ := hn g cap (by rw [← hl]; exact e1)
              obtain ⟨δ, hδ, h1', h2'⟩ := hn' g cap' (by rw [← hl']; exact e2)
              refine hc.inv.inj β δ _ _ g cap cap' (fun e => hne ?_) h1 hlv h1' hlv' h2 h2'
              subst e
              obtain ⟨b1, b2⟩ := b
              obtain ⟨d1, d2⟩ := d
              simp only at hβ hδ; subst hβ; subst hδ
              exact hB.1 i j β _ _ hbi hbj
      · exact hq'.elim
    · exact hq'.elim
  cases x with
  | normal => exact key
  | ret => exact key
  | exit i => exact hq.elim

/-! ### A contract of a call that writes what it is handed -/

theorem Inv.pick (h : Inv C Φ L H w) {ps : List Nat} (hn : nodupH ps = true) (hb : ∀ j ∈ ps, j < H.length) (hpre : ∀ i, i < C.L0.length → ps[i]? = some i) : Inv C Φ (subL L ps) (subH H ps) w := by
  have hget : ∀ (i : Nat) o, (subH H ps)[i]? = some o → ∃ j o', ps[i]? = some j ∧ H[j]? = some o' ∧ o = mapO (idx ps) o' ∧ (subL L ps)[i]? = L[j]? := fun i o ho => by
    unfold subH at ho
    rw [List.getElem?_map] at ho
    cases hp : ps[i]? with
    | none => rw [hp] at ho; simp at ho
    | some j =>
      rw [hp] at ho; simp at ho
      have hj := hb j (List.mem_of_getElem? hp)
      refine ⟨j, _, rfl, List.getElem?_eq_getElem hj, by rw [← ho, List.getElem?_eq_getElem hj]; rfl, ?_⟩
      unfold subL
      rw [List.getElem?_map, hp]
      obtain ⟨l, hl, _⟩ := h.obj j _ (List.getElem?_eq_getElem hj)
      simp [hl]
  obtain ⟨F, hF⟩ := h.deep
  refine ⟨?_, Deep.sel (C' := C) hF (fun i => (ps[i]?).getD 0) (fun i o ho hlv => ?_) (fun i k o o' ho ho' e => ?_) fun i o ho hlv b hb => ?_⟩
  rotate_left
  · obtain ⟨j, o', hp, hj, rfl, hl⟩ := hget i o ho
    rw [mapO_live] at hlv
    simp only [hp, Option.getD_some]
    exact ⟨o', hj, hlv, hl, fun l G hd => hd.mapO Nms_fwd⟩
  · obtain ⟨j, x, hp, hj, rfl, hl⟩ := hget i o ho
    obtain ⟨j', x', hp', hj', rfl, hl'⟩ := hget k o' ho'
    simp only [hp, hp', Option.getD_some] at e
    exact nodupH_ok hn i k j hp (by rw [hp', e])
  · obtain ⟨j, o', hp, hj, rfl, hl⟩ := hget i o ho
    rw [mapO_live] at hlv
    simp only [hp, Option.getD_some] at hb
    exact (hF j o' hj hlv).old b hb
  constructor
  · simp [subL, subH]
  · exact h.frz
  · exact h.base
  · exact h.glob
  · exact h.fresh
  · exact h.os
  · exact h.tape
  · exact h.output
  · exact h.size
  · exact h.keep
  · intro i o ho
    obtain ⟨j, o', hp, hj, rfl, hl⟩ := hget i o ho
    obtain ⟨l, h1, h2⟩ := h.obj j o' hj
    exact ⟨l, by rw [hl, h1], mapO_ok Nms_fwd h2⟩
  · intro i o g cap ho hlv hlg
    obtain ⟨j, o', hp, hj, rfl, hl⟩ := hget i o ho
    rw [mapO_live] at hlv
    rw [hl] at hlg
    exact h.own j o' g cap hj hlv hlg
  · intro i k o o' g cap cap' hne ho hlv ho' hlv' e1 e2
    obtain ⟨j, x, hp, hj, rfl, hl⟩ := hget i o ho
    obtain ⟨j', x', hp', hj', rfl, hl'⟩ := hget k o' ho'
    rw [mapO_live] at hlv hlv'
    rw [hl] at e1; rw [hl'] at e2
    exact h.inj j j' x x' g cap cap' (fun e => hne (nodupH_ok hn i k j hp (by rw [hp', e]))) hj hlv hj' hlv' e1 e2
  · intro i x hx
    have hlt : i < C.L0.length := (List.getElem?_eq_some_iff.1 hx).1
    have hp := hpre i hlt
    unfold subL
    rw [List.getElem?_map, hp]
    have := h.pre i x hx
    simp [this]

def namesR : List Nat → List AV → List Nat
  | ps, [] => ps
  | ps, .agg cs :: r => namesR (addNs ps cs) r
  | ps, c :: r => namesR (addN ps c) r

def retHQ (P : Program) (rs : List ResultVar) (ms : List Bool) (ids : List Nat) (res : AV) (H1 : List AObj) (e : AExit) (S : St) : Prop :=
  match e with
  | .exit _ => False
  | _ => match retAV P S rs with
    | some (p, us) => match solidM ms S.heap us with
      | some (q, vs, H) => p ∧ q ∧ nodupH (namesR ids vs) = true ∧ (namesR ids vs).all (· < H.length) = true ∧ mapR (idx (namesR ids vs)) (oneOr vs) = res ∧ subH H (namesR ids vs) = H1
      | none => False
    | none => False

def retXQ (P : Program) (rs : List ResultVar) (ms : List Bool) (ids : List Nat) (all : (AV → List AObj → Prop) → Prop) (e : AExit) (S : St) : Prop :=
  match e with
  | .exit _ => False
  | _ => match retAV P S rs with
    | some (p, us) => match solidM ms S.heap us with
      | some (q, vs, H) => p ∧ q ∧ nodupH (namesR ids vs) = true ∧ (namesR ids vs).all (· < H.length) = true ∧ ∀ K : AV → List AObj → Prop, all K → K (mapR (idx (namesR ids vs)) (oneOr vs)) (subH H (namesR ids vs))
      | none => False
    | none => False

theorem addN1_pre (ps : List Nat) (c : AV) : ∃ r, addN1 ps c = ps ++ r := by
  unfold addN1
  split <;> first | (split <;> first | exact ⟨[_], rfl⟩ | exact ⟨[], by simp⟩) | exact ⟨[], by simp⟩
theorem addN1s_pre : ∀ (cs : List AV) (ps : List Nat), ∃ r, cs.foldl addN1 ps = ps ++ r
  | [], ps => ⟨[], by simp⟩
  | c :: cs, ps => by
    obtain ⟨r, hr⟩ := addN1_pre ps c
    obtain ⟨r', hr'⟩ := addN1s_pre cs (addN1 ps c)
    exact ⟨r ++ r', by rw [List.foldl_cons, hr', hr, List.append_assoc]⟩
theorem addN_pre (ps : List Nat) (c : AV) : ∃ r, addN ps c = ps ++ r := by
  unfold addN
  split
  · exact addN1s_pre _ _
  · exact addN1_pre _ _
theorem addNs_pre : ∀ (cs : List AV) (ps : List Nat), ∃ r, addNs ps cs = ps ++ r
  | [], ps => ⟨[], by simp [addNs]⟩
  | c :: cs, ps => by
    obtain ⟨r, hr⟩ := addN_pre ps c
    obtain ⟨r', hr'⟩ := addNs_pre cs (addN ps c)
    exact ⟨r ++ r', by rw [addNs, hr', hr, List.append_assoc]⟩
theorem namesR_pre : ∀ (vs : List AV) (ps : List Nat), ∃ r, namesR ps vs = ps ++ r
  | [], ps => ⟨[], by simp [namesR]⟩
  | c :: vs, ps => by
    by_cases h : ∃ cs, c = .agg cs
    · obtain ⟨cs, rfl⟩ := h
      obtain ⟨r, hr⟩ := addNs_pre cs ps
      obtain ⟨r', hr'⟩ := namesR_pre vs (addNs ps cs)
      exact ⟨r ++ r', by rw [namesR, hr', hr, List.append_assoc]⟩
    · obtain ⟨r, hr⟩ := addN_pre ps c
      obtain ⟨r', hr'⟩ := namesR_pre vs (addN ps c)
      refine ⟨r ++ r', ?_⟩
      rw [namesR, hr', hr, List.append_assoc]
      exact fun cs e => h ⟨cs, e⟩

theorem HOk_intro {f : FuncId} {fn : Func} {c : Code} {args : List AV} {H0 H1 : List AObj} {res : AV} (ms : List Bool) (ids : List Nat) (hids : ids = List.range H0.length) (hf : P.funcs[f]? = some fn) (hb : fn.body = some c)
    (h : wfArgs args → ∀ C : Ctx, C.L0.length = H0.length → AWp P C c ⟨args ++ List.replicate (fn.ntmps - args.length) .any, H0⟩ (retHQ P fn.results.toList ms ids res H1)) : HOk P f args H0 res H1 := by
  intro w Φ L W vs hI hsz hv
  refine calls_of_wp hf hb ?_
  have hwf := wfArgs_ok (vs := vs.toList) (by simpa using hsz) (fun i c v hc hv' => hv i c v hc (by simpa using hv'))
  have hconc : Conc ⟨w, Φ, W, L⟩ Φ L ⟨args ++ List.replicate (fn.ntmps - args.length) .any, H0⟩ { tmps := vs ++ Array.replicate (fn.ntmps - vs.size) undef, defers := [] } w := by
    refine ⟨rfl, by simp [hsz], fun i c v hc hu => ?_, hI⟩
    by_cases hi : i < args.length
    · rw [List.getElem?_append_left hi] at hc
      simp only at hu
      rw [Array.getElem?_append_left (by omega)] at hu
      exact hv i c v hc hu
    · rw [List.getElem?_append_right (by omega)] at hc
      have := List.mem_of_getElem? hc
      simp at this
      rw [this.2]; exact .any _
  refine Code.wp_mono ?_ (h hwf ⟨w, Φ, W, L⟩ hI.len Φ L _ w hconc)
  rintro e a' w' ⟨x, S, Φ', L', rfl, hq, hc⟩
  have key : a'.defers = [] ∧ ∃ v, (results fn a'.tmps).run P w' = .ok v w' ∧ ∃ v' Φ'' L'', (Ending.returned v) = .returned v' ∧ Inv ⟨w, Φ, W, L⟩ Φ'' L'' H1 w' ∧ CVal Φ'' L'' res v' := by
    have hq' : match retAV P S fn.results.toList with
        | some (p, us) => match solidM ms S.heap us with
          | some (q, vs, H) => p ∧ q ∧ nodupH (namesR ids vs) = true ∧ (namesR ids vs).all (· < H.length) = true ∧ mapR (idx (namesR ids vs)) (oneOr vs) = res ∧ subH H (namesR ids vs) = H1
          | none => False
        | none => False := by
      cases x with
      | exit i => exact hq.elim
      | normal => exact hq
      | ret => exact hq
    clear hq
    split at hq'
    · rename_i p us0 hret
      split at hq'
      · rename_i q us H hsol
        obtain ⟨hp, hqq, hn, hall, rfl, rfl⟩ := hq'
        obtain ⟨zs, hzl, hzc0, hzr⟩ := retAV_ok hc hret hp
        obtain ⟨Φ2, m2, hI2, hul, k2⟩ := solidM_ok hc.inv hsol hqq
        have hzc := k2 zs hzc0
        rw [← hul] at hzl
        have hres : (results fn a'.tmps).run P w' = .ok (if h : zs.toArray.size = 1 then zs.toArray[0] else .tuple zs.toArray) w' := by
          unfold results
          rw [Sem.run_bind, Array.mapM_eq_mapM_toList, Sem.run_map]
          exact congrArg (fun r : Result (List Value) => (r.andThen fun a w' => Result.ok a.toArray w').andThen fun a w' => Sem.run P (pure (if h : a.size = 1 then a[0] else Value.tuple a)) w') hzr
        have hone : CVal Φ2 L' (oneOr us) (if h : zs.toArray.size = 1 then zs.toArray[0] else .tuple zs.toArray) := by
          unfold oneOr
          split
          · rename_i v
            obtain ⟨z, rfl⟩ := List.length_eq_one_iff.1 hzl
            exact hzc 0 v z rfl rfl
          · rename_i hne
            have : ¬ zs.toArray.size = 1 := by
              simp only [List.size_toArray, hzl]
              intro e
              obtain ⟨v, rfl⟩ := List.length_eq_one_iff.1 e
              exact hne v rfl
            rw [dif_neg this]
            exact .tup _ _ (by simpa using hzl) fun i c v hx hu => hzc i c v hx (by simpa using hu)
        have hall' : ∀ j ∈ namesR ids us, j < H.length := fun j hj => by simpa using List.all_eq_true.1 hall j hj
        refine ⟨hc.defers, _, hres, _, Φ2, _, rfl, hI2.pick hn hall' fun i hi => ?_, mapR_ok Nms_fwd hone⟩
        obtain ⟨r, hr⟩ := namesR_pre us ids
        have hi' : i < H0.length := by rw [← hI.len]; exact hi
        rw [hr, hids, List.getElem?_append_left (by simpa using hi')]
        simp [hi']
      · exact hq'.elim
    · exact hq'.elim
  cases x with
  | normal => exact key
  | ret => exact key
  | exit i => exact hq.elim
theorem XOk_intro {f : FuncId} {fn : Func} {c : Code} {args : List AV} {H0 : List AObj} {all : (AV → List AObj → Prop) → Prop} (ms : List Bool) (ids : List Nat) (hids : ids = List.range H0.length) (hf : P.funcs[f]? = some fn) (hb : fn.body = some c)
    (h : wfArgs args → ∀ C : Ctx, C.L0.length = H0.length → AWp P C c ⟨args ++ List.replicate (fn.ntmps - args.length) .any, H0⟩ (retXQ P fn.results.toList ms ids all)) : XOk P f args H0 all := by
  intro w Φ L W vs hI hsz hv
  refine calls_of_wp hf hb ?_
  have hwf := wfArgs_ok (vs := vs.toList) (by simpa using hsz) (fun i c v hc hv' => hv i c v hc (by simpa using hv'))
  have hconc : Conc ⟨w, Φ, W, L⟩ Φ L ⟨args ++ List.replicate (fn.ntmps - args.length) .any, H0⟩ { tmps := vs ++ Array.replicate (fn.ntmps - vs.size) undef, defers := [] } w := by
    refine ⟨rfl, by simp [hsz], fun i c v hc hu => ?_, hI⟩
    by_cases hi : i < args.length
    · rw [List.getElem?_append_left hi] at hc
      simp only at hu
      rw [Array.getElem?_append_left (by omega)] at hu
      exact hv i c v hc hu
    · rw [List.getElem?_append_right (by omega)] at hc
      have := List.mem_of_getElem? hc
      simp at this
      rw [this.2]; exact .any _
  refine Code.wp_mono ?_ (h hwf ⟨w, Φ, W, L⟩ hI.len Φ L _ w hconc)
  rintro e a' w' ⟨x, S, Φ', L', rfl, hq, hc⟩
  have key : a'.defers = [] ∧ ∃ v, (results fn a'.tmps).run P w' = .ok v w' ∧ ∃ v' Φ'' L'' av h, (∀ K : AV → List AObj → Prop, all K → K av h) ∧ (Ending.returned v) = .returned v' ∧ Inv ⟨w, Φ, W, L⟩ Φ'' L'' h w' ∧ CVal Φ'' L'' av v' := by
    have hq' : match retAV P S fn.results.toList with
        | some (p, us) => match solidM ms S.heap us with
          | some (q, vs, H) => p ∧ q ∧ nodupH (namesR ids vs) = true ∧ (namesR ids vs).all (· < H.length) = true ∧ ∀ K : AV → List AObj → Prop, all K → K (mapR (idx (namesR ids vs)) (oneOr vs)) (subH H (namesR ids vs))
          | none => False
        | none => False := by
      cases x with
      | exit i => exact hq.elim
      | normal => exact hq
      | ret => exact hq
    clear hq
    split at hq'
    · rename_i p us0 hret
      split at hq'
      · rename_i q us H hsol
        obtain ⟨hp, hqq, hn, hall, hk⟩ := hq'
        obtain ⟨zs, hzl, hzc0, hzr⟩ := retAV_ok hc hret hp
        obtain ⟨Φ2, m2, hI2, hul, k2⟩ := solidM_ok hc.inv hsol hqq
        have hzc := k2 zs hzc0
        rw [← hul] at hzl
        have hres : (results fn a'.tmps).run P w' = .ok (if h : zs.toArray.size = 1 then zs.toArray[0] else .tuple zs.toArray) w' := by
          unfold results
          rw [Sem.run_bind, Array.mapM_eq_mapM_toList, Sem.run_map]
          exact congrArg (fun r : Result (List Value) => (r.andThen fun a w' => Result.ok a.toArray w').andThen fun a w' => Sem.run P (pure (if h : a.size = 1 then a[0] else Value.tuple a)) w') hzr
        have hone : CVal Φ2 L' (oneOr us) (if h : zs.toArray.size = 1 then zs.toArray[0] else .tuple zs.toArray) := by
          unfold oneOr
          split
          · rename_i v
            obtain ⟨z, rfl⟩ := List.length_eq_one_iff.1 hzl
            exact hzc 0 v z rfl rfl
          · rename_i hne
            have : ¬ zs.toArray.size = 1 := by
              simp only [List.size_toArray, hzl]
              intro e
              obtain ⟨v, rfl⟩ := List.length_eq_one_iff.1 e
              exact hne v rfl
            rw [dif_neg this]
            exact .tup _ _ (by simpa using hzl) fun i c v hx hu => hzc i c v hx (by simpa using hu)
        have hall' : ∀ j ∈ namesR ids us, j < H.length := fun j hj => by simpa using List.all_eq_true.1 hall j hj
        refine ⟨hc.defers, _, hres, _, Φ2, _, _, _, hk, rfl, hI2.pick hn hall' fun i hi => ?_, mapR_ok Nms_fwd hone⟩
        obtain ⟨r, hr⟩ := namesR_pre us ids
        have hi' : i < H0.length := by rw [← hI.len]; exact hi
        rw [hr, hids, List.getElem?_append_left (by simpa using hi')]
        simp [hi']
      · exact hq'.elim
    · exact hq'.elim
  cases x with
  | normal => exact key
  | ret => exact key
  | exit i => exact hq.elim
end
end Go.Proofs.Ythojapklndjidaa
