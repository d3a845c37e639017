/- A listed variable of strings, as typed data. -/
import Derived.Test.YtmbnmbgihcmapaaDoorSy20
import Derived.LaidMore
import Derived.Handed
import Derived.HandedShaped
namespace Go.Proofs.YtmbnmbgihcmapaaDoor
open Go Go.RowKit
set_option linter.all false
section
variable {H : Type} {enc : TypeId × Value → H} {P : Program} {w : World} {spare : Nat → Bool} {held : Bool}
theorem cell_at {b o : Nat} {cs : Array Value} {t : TypeId} {fz : Nat × Nat} (h : w.heap[b]? = some (.cells cs t fz)) (i : Nat) : w.cell? ((⟨b, o, none⟩ : Addr).add i) = cs[o + i]? := by
  have e : (⟨b, o, none⟩ : Addr).add i = ⟨b, o + i, none⟩ := by
    unfold Addr.add
    by_cases hi : i = 0
    · subst hi; simp
    · simp [hi]
  rw [e]
  simp [World.cell?, h]
theorem strs_of_trod {t e : TypeId} {fuel : Nat} {cs : List Value} {ds : List (DataW H)} {p : List MemPlace} {L : List (List UInt8)} (ht : P.underlying t = some (.slice e)) (he : P.underlying e = some .string) (hc : P.cellsOf e = 1) (hf : fits P 60 (.sl .str) t = true)
    (h : DataW.trod enc P w 0 spare held fuel t cs = some (.slice ds [], p)) (hd : ds = L.map fun s => .lit (.string s)) : RepT (fun b => w.heap[b]?) (.sl .str) L cs := by
  obtain ⟨d, hd0⟩ := rep_of_trod 60 (.sl .str) t hf h
  have hd1 := hd0
  obtain ⟨A, cap, hcs, hl, hcap, hel⟩ := hd1
  obtain ⟨a, cap', hcs', hl', hel'⟩ := open_row ht hc h
  rw [hcs'] at hcs
  simp only [List.cons.injEq, Value.slice.injEq, and_true] at hcs
  obtain ⟨hA, hn, _⟩ := hcs
  have hdl : ds.length = L.length := by rw [hd]; simp
  have ed : d = L := by
    apply List.ext_getElem
    · omega
    · intro i h1 h2
      rcases hel with h0 | ⟨b, o, cs2, t2, fz, hA2, hb, hel⟩
      · omega
      · obtain ⟨ws, hw1, hw2⟩ := hel i h1
        obtain ⟨hw1, _⟩ := hw1
        have c1 := hw2 0 _ (by rw [hw1]; rfl)
        obtain ⟨v, n, q, hv, htr⟩ := hel' i (.lit (.string L[i])) (by rw [hd, List.getElem?_map, List.getElem?_eq_getElem h2]; rfl)
        obtain ⟨s, hs, hx, _⟩ := DataW.trod_string he htr
        rw [hA2] at hA
        simp only [Option.some.injEq] at hA
        subst hA
        rw [cell_at hb] at hv
        have c2 : cs2[o + i]? = some (.string ⟨(d[i]).toArray⟩) := by simpa using c1
        rw [c2] at hv
        simp only [List.cons.injEq, and_true] at hs
        rw [hs] at hv
        simp only [Option.some.injEq, Value.string.injEq] at hv
        simp only [Prod.mk.injEq, DataW.lit.injEq, Lit.string.injEq] at hx
        rw [hx.1, ← hv]
  subst ed
  exact hd0
/-- The variable's place. -/
theorem glob_strs {g : Nat} {t : TypeId} {fz : Nat × Nat} {v : Value} {L : List (List UInt8)} (hb : w.heap[g]? = some (.cells #[v] t fz)) (h : RepT (fun b => w.heap[b]?) (.sl .str) L [v]) : CVal (fun b => w.heap[b]?) [] (.eptr (.sl .str) [L] 0 0) (.pointer (some ⟨g, 0, none⟩)) := by
  have := CVal.eptr (Φ := fun b => w.heap[b]?) (L := []) (.sl .str) [L] 0 0 g 0 1 ⟨some ⟨g, 0, none⟩, 1, rfl, Nat.le_refl _, by decide, .inr ⟨g, 0, #[v], t, fz, rfl, hb, fun i hi => ⟨[v], by
    have : i = 0 := by simp at hi; omega
    subst this; exact h, fun j x hj => by
    have hi0 : i = 0 := by simp at hi; omega
    subst hi0
    cases j with
    | zero => simpa using hj
    | succ j => simp at hj⟩⟩⟩ (by simp)
  simpa using this
end

/-- A law's row, of a listed variable and of a world in which each variable has its shape. -/
theorem rets_and {H : Type} {enc : TypeId × Value → H} {a : Assume} {C : Checked} {os : Os} {f : FuncId} {fn : Func} {s : ChangeSpec} {conds : List PathCond} {apart fresh handsOn again : Bool} {X : World → Array Value → Prop}
    (hX : ∀ (w w' : World) (args : Array Value), w.heap = w'.heap → X w args → X w' args)
    (own : ownKnob C.prog.godebug = none) (started : os.Started) (noInit : C.prog.inits.idxOf? f = none) (hfn : C.prog.funcs[f]? = some fn)
    (witness : ∃ (w : World) (tape : Tape) (i : Input), w.os = os ∧ (w.forCall tape i).Shaped C.prog ∧ i.vars = [] ∧ Input.okWide C.prog (w.forCall tape i) .any w.heap.size f i ∧
      ((s.pre enc C.prog fn conds apart (w.forCall tape i).memory i.args ∧ X (w.forCall tape i).memory i.args) ∧ sizedMet enc C.prog fn (OpenSpec.ofChange s) apart (w.forCall tape i).memory i.args) ∧ a.holds C.prog (lone (Frame.enter C.prog f i.args .normal) [] (w.forCall tape i)))
    (contract : ∀ (W : World) (base : Nat) (args : Array Value) (ds gs : List (DataW H)) (before : List MemPlace),
      (∀ (j : Nat) t v, fn.params[j]? = some t → args[j]? = some v → Value.okWide C.prog W .any base t v) →
      DataW.Whole enc C.prog fn.params.toList s.vars apart W args.toList ds gs before → X W args → W.ShapedOpen C.prog →
      Calls C.prog f args W fun e W' => ∃ v, e = .returned v ∧ s.post enc C.prog fn apart fresh handsOn again W args v W') :
    ReturnsInHanded a C os f .any (fun w args => (s.pre enc C.prog fn conds apart w args ∧ X w args) ∧ sizedMet enc C.prog fn (OpenSpec.ofChange s) apart w args) (s.post enc C.prog fn apart fresh handsOn again) := by
  refine returnsInHanded_of_calls own started noInit witness ?_
  intro w tape i _ hsh _ hok hpre hholds
  obtain ⟨_, _, _, fn', hfn', _, _, _, _, hval⟩ := hok
  have e : fn' = fn := Option.some.inj (hfn'.symm.trans hfn)
  subst e
  obtain ⟨⟨⟨ds, gs, before, hw, hc⟩, hx⟩, hz⟩ := hpre
  have hw' := DataW.Whole.of_heap (w' := w.forCall tape i) (by rfl) hw
  refine (contract (w.forCall tape i) w.heap.size i.args ds gs before hval hw' (hX _ _ _ (by rfl) hx) hsh).mono fun e W' ⟨v, he, hp⟩ => ?_
  subst he
  exact ChangeSpec.post_blind hp
end Go.Proofs.YtmbnmbgihcmapaaDoor
