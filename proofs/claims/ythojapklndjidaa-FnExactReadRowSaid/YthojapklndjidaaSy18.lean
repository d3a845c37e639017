/- From the contract of a law to its row. -/
import Derived.Test.YthojapklndjidaaSy17
import Derived.Carry
namespace Go.Proofs.Ythojapklndjidaa
open Go Go.RowKit Go.ChangeShapes
set_option linter.unusedVariables false
set_option linter.all false

def aggB (P : Program) (t : TypeId) : Bool := match P.underlying t with
  | some (.struct _) => true
  | _ => false

section
variable {H : Type} {enc : TypeId × Value → H} {P : Program} {w : World} {spare : Nat → Bool} {held : Bool} {base : Nat}

theorem word_of {T : Ty} {x : T.D} {Φ : Nat → Option Obj} {v : Value} (hs : T.size = 1) (h : RepT Φ T x [v]) : CVal Φ [] ((flat T x).headD .any) v := by
  have hcv := CVals.of_rep (L := []) h
  cases hfl : flat T x with
  | nil => rw [hfl] at hcv; simp [CVals] at hcv
  | cons c cs =>
    rw [hfl] at hcv
    obtain ⟨v', ws, he, _, h2, _⟩ := hcv.inv_cons
    simp only [List.cons.injEq] at he
    rw [he.1]; exact h2

theorem open_arg {n : Nat} {T : Ty} {t : TypeId} (h : fits P n T t = true) (hs : aggB P t = false → T.size = 1) {v : Value} (hk : Value.okWide P w .any base t v)
    {d : DataW H} {p : List MemPlace} (hx : DataW.Trod enc P w 0 spare held t v d p) : ∃ x : T.D, CVal (fun b => w.heap[b]?) [] (encA (aggB P t) T x) v := by
  obtain ⟨m, hm⟩ := hx
  obtain ⟨x, hr⟩ := rep_of_trod n T t h hm
  refine ⟨x, ?_⟩
  unfold encA
  by_cases ha : aggB P t = true
  · rw [ha, if_pos rfl]
    unfold aggB at ha
    split at ha
    · rename_i fs hu
      simp only [Value.okWide, hu] at hk
      obtain ⟨cs, rfl, _⟩ := hk
      have := packV_ok (CVals.of_rep (L := []) hr)
      simpa [Value.cells] using this
    · cases ha
  · have ha : aggB P t = false := by simpa using ha
    rw [ha]
    simp only [Bool.false_eq_true, if_false]
    refine word_of (hs ha) ?_
    have hone : v.cells.toList = [v] := by
      cases n with
      | zero => simp [fits] at h
      | succ n =>
        unfold fits at h
        split at h
        · rename_i k hu; simp only [Value.okWide, hu, Cell.okWide] at hk; cases v <;> simp_all [Cell.ok, Value.cells]
        · rename_i hu; simp only [Value.okWide, hu, Cell.okWide] at hk; cases v <;> simp_all [Cell.ok, Value.cells]
        · rename_i hu; simp only [Value.okWide, hu, Cell.okWide] at hk; cases v <;> simp_all [Cell.ok, Value.cells]
        · rename_i e hu
          obtain ⟨a, l, c, rfl⟩ := Go.WideShapes.okWide_slice hu hk
          simp [Value.cells]
        · rename_i fs hu; simp [aggB, hu] at ha
        · cases h
    rw [hone] at hr; exact hr

def fitsAll (P : Program) : ArgT → List TypeId → Bool
  | [], [] => true
  | p :: As, t :: ts => fits P 60 p.2 t && (p.1 == aggB P t) && (p.1 || p.2.size == 1) && P.readableRec t && decide (t < P.types.size) && fitsAll P As ts
  | _, _ => false

theorem open_all : ∀ {As : ArgT} {ts : List TypeId}, fitsAll P As ts = true → ∀ {vs : List Value} {ds : List (DataW H)} {p : List MemPlace}, DataW.TrodAll enc P w 0 spare held ts vs ds p →
    (∀ (j : Nat) t v, ts[j]? = some t → vs[j]? = some v → Value.okWide P w .any base t v) →
    ∃ x : ArgD As, vs.length = (encAs As x).length ∧ ∀ (i : Nat) c v, (encAs As x)[i]? = some c → vs[i]? = some v → CVal (fun b => w.heap[b]?) [] c v
  | [], [], _, vs, ds, p, hA, hv => by
    obtain ⟨rfl, _, _⟩ := trodAll_nil hA
    exact ⟨(), rfl, fun i c v hc => by simp [encAs] at hc⟩
  | [], _ :: _, h, vs, ds, p, hA, hv => by simp [fitsAll] at h
  | _ :: _, [], h, vs, ds, p, hA, hv => by simp [fitsAll] at h
  | a :: As, t :: ts, h, vs, ds, p, hA, hv => by
    simp only [fitsAll, Bool.and_eq_true, Bool.or_eq_true, beq_iff_eq, decide_eq_true_eq] at h
    obtain ⟨⟨⟨⟨⟨h1, h2⟩, h3⟩, _⟩, _⟩, h4⟩ := h
    obtain ⟨v, vs', d, ds', p', q, rfl, rfl, rfl, hd, hr⟩ := trodAll_cons hA
    obtain ⟨x, hx⟩ := open_arg h1 (fun e => h3.resolve_left (by rw [h2, e]; simp)) (hv 0 t v rfl rfl) hd
    obtain ⟨y, hy1, hy2⟩ := open_all h4 hr fun j t v ht hv' => hv (j + 1) t v (by simpa using ht) (by simpa using hv')
    rw [← h2] at hx
    refine ⟨(x, y), by simp [encAs, hy1], fun i c u hc hu => ?_⟩
    cases i with
    | zero => simp [encAs] at hc hu; subst hc; subst hu; exact hx
    | succ i => exact hy2 i c u (by simpa [encAs] using hc) (by simpa using hu)

theorem trod_places {t : TypeId} {v : Value} {d : DataW H} {p : List MemPlace} (h : DataW.Trod enc P w 0 spare held t v d p) : ∀ x ∈ p, x.block < w.heap.size := by
  obtain ⟨m, hm⟩ := h; exact DataW.trod_lt m _ _ _ hm

theorem keep_all (hl : laidOutB P = true) {w' : World} (hb : Below w.heap.size w w') : ∀ {As : ArgT} {ts : List TypeId}, fitsAll P As ts = true → ∀ {vs : List Value} {ds : List (DataW H)} {p : List MemPlace},
    DataW.TrodAll enc P w 0 (fun _ => true) true ts vs ds p → DataW.TrodAll enc P w' 0 (fun b => decide (b < w.heap.size)) true ts vs ds p
  | [], [], _, vs, ds, p, hA => by
    obtain ⟨rfl, rfl, rfl⟩ := trodAll_nil hA
    exact trodAll_mk0
  | [], _ :: _, h, vs, ds, p, hA => by simp [fitsAll] at h
  | _ :: _, [], h, vs, ds, p, hA => by simp [fitsAll] at h
  | a :: As, t :: ts, h, vs, ds, p, hA => by
    simp only [fitsAll, Bool.and_eq_true, Bool.or_eq_true, beq_iff_eq, decide_eq_true_eq] at h
    obtain ⟨⟨⟨⟨⟨h1, h2⟩, h3⟩, h5⟩, h6⟩, h4⟩ := h
    obtain ⟨v, vs', d, ds', p', q, rfl, rfl, rfl, hd, hr⟩ := trodAll_cons hA
    exact trodAll_cons_mk (Below.trod hl h5 h6 hd hb (trod_places hd)) (keep_all hl hb h4 hr)

/-- The walk of a law, off its contract. -/
theorem law_callsG {f : FuncId} {As : ArgT} {s : Spec As} (h : FSpecOk P f s) (hpre : ∀ x, s.pre x) (hres : ∀ x, s.res x 0 = .bool true) {ts : List TypeId} (hf : fitsAll P As ts = true) (hl : laidOutB P = true)
    {args : Array Value} {ds : List (DataW H)} {p : List MemPlace} (hA : DataW.TrodAll enc P w 0 (fun _ => true) true ts args.toList ds p)
    (hv : ∀ (j : Nat) t v, ts[j]? = some t → args.toList[j]? = some v → Value.okWide P w .any base t v) (hg : GlOk fun b => w.heap[b]?) :
    Calls P f args w fun e w' => e = .returned (.bool true) ∧ Below w.heap.size w w' ∧ DataW.TrodAll enc P w' 0 (fun b => decide (b < w.heap.size)) true ts args.toList ds p := by
  obtain ⟨x, h1, h2⟩ := open_all hf hA hv
  refine (h x 0 (hpre x) w (fun b => w.heap[b]?) [] args rfl (fun b o hb => hb) hg (by simpa using h1) fun i c v hc hv' => h2 i c v hc (by simpa using hv')).mono fun e w' he => ?_
  obtain ⟨v, Φ', Ln, rfl, hb, _, _, _, _, hr⟩ := he
  rw [hres] at hr
  cases hr
  exact ⟨rfl, hb, keep_all hl hb hf hA⟩
/-- plain: nothing is known of the variables. -/
theorem law_calls {f : FuncId} {As : ArgT} {s : Spec As} (h : FSpecOk P f s) (hpre : ∀ x, s.pre x) (hres : ∀ x, s.res x 0 = .bool true) {ts : List TypeId} (hf : fitsAll P As ts = true) (hl : laidOutB P = true)
    {args : Array Value} {ds : List (DataW H)} {p : List MemPlace} (hA : DataW.TrodAll enc P w 0 (fun _ => true) true ts args.toList ds p)
    (hv : ∀ (j : Nat) t v, ts[j]? = some t → args.toList[j]? = some v → Value.okWide P w .any base t v) :
    Calls P f args w fun e w' => e = .returned (.bool true) ∧ Below w.heap.size w w' ∧ DataW.TrodAll enc P w' 0 (fun b => decide (b < w.heap.size)) true ts args.toList ds p :=
  law_callsG h hpre hres hf hl hA hv ⟨fun g => .any _, trivial⟩
/-- end plain -/
theorem plainEnd : True := trivial
end
end Go.Proofs.Ythojapklndjidaa
