/- Rules: the walks of Allowed, of the program and of the reference. -/
import Derived.Test.YtmbnmbgihcmapaaDoorRc
import Derived.Shelf.Strings.Prefix
namespace Go.Proofs.YtmbnmbgihcmapaaDoor
open Go Go.RowKit
set_option linter.all false
set_option pp.deepTerms true
set_option pp.maxSteps 200000
set_option maxRecDepth 100000
set_option maxHeartbeats 8000000
/-- A call that makes nothing that is handed back, and hands back one word. -/
theorem FnOk.of_word {P : Program} {f : FuncId} {args : List AV} {n : Nat} {res : AV} (h : ∀ (w : World) (Φ : Nat → Option Obj) (vs : Array Value), (∀ b o, Φ b = some o → w.heap[b]? = some o) → GlOk Φ → vs.size = args.length → (∀ (i : Nat) c v, args[i]? = some c → vs[i]? = some v → CVal Φ [] c v) →
    Calls P f vs w fun e w' => ∃ v, e = .returned v ∧ Below w.heap.size w w' ∧ ∀ Φ L, CVal Φ L res v) : FnOk P f args n res [] := by
  intro w Φ L vs hL hf hg hsz hv
  refine (h w Φ vs hf hg hsz hv).mono fun e w' ⟨v, he, hb, hc⟩ => ⟨v, Φ, [], he, hb, More.refl _, fun b o hbo => ?_, fun b o hbo => .inl hbo, ⟨rfl, fun i o ho => by simp at ho, fun i o g cap ho => by simp at ho, fun i j o o' g cap cap' _ ho => by simp at ho, fun _ => [], fun i o ho => by simp at ho⟩, hc _ _⟩
  rw [hb.block b (lt_of_block (hf b o hbo))]; exact hf b o hbo
theorem two_args {vs : Array Value} (h : vs.size = 2) : vs = #[vs[0], vs[1]] := by
  apply Array.ext
  · simp [h]
  · intro i h1 h2
    have : i = 0 ∨ i = 1 := by simp at h2; omega
    rcases this with rfl | rfl <;> rfl
def lays99_ren : Go.Shelf.Ren := ⟨fun | 99 => 33 | 206 => 57 | n => n, fun | 9 => 9 | 4 => 4 | 3 => 3 | n => n, fun | n => n⟩
theorem lays99 : Go.Proofs.Lays.n99 Tryd.prog lays99_ren := {
  mixed := by kernel_rfl
  f99 := Tryd.func33.trans (congrArg some (by kernel_rfl))
  f206 := Tryd.func57.trans (congrArg some (by kernel_rfl))
  t3 := Tryd.underlying3
  a3 := Tryd.isAgg3
  z3 := Tryd.sizeOf3
  v3 := Tryd.zeroValue3
  t4 := Tryd.underlying4
  a4 := Tryd.isAgg4
  z4 := Tryd.sizeOf4
  v4 := Tryd.zeroValue4
  t9 := Tryd.underlying9
  a9 := Tryd.isAgg9
  z9 := Tryd.sizeOf9
  v9 := Tryd.zeroValue9 }
def wPre : Spec [(false, .str), (false, .str)] := ⟨fun _ => True, fun x _ => .bool (List.isPrefixOf x.2.1 x.1), fun _ => []⟩
theorem f33_ok : FSpecOk Tryd.prog 33 wPre := by
  intro x n hp
  obtain ⟨a, b, u⟩ := x; change List UInt8 at a b
  refine FnOk.of_word fun w Φ vs hf hg hsz hv => ?_
  have hs2 : vs.size = 2 := hsz
  have h0 := hv 0 (.str a) vs[0] rfl (Array.getElem?_eq_getElem (by omega))
  have h1 := hv 1 (.str b) vs[1] rfl (Array.getElem?_eq_getElem (by omega))
  rw [two_args hs2]
  generalize vs[0] = v0 at *
  generalize vs[1] = v1 at *
  cases h0; cases h1
  refine (Any.strings_HasPrefix lays99 ⟨a.toArray⟩ ⟨b.toArray⟩ w).mono fun e w' ⟨he, hw⟩ => ?_
  subst hw
  exact ⟨_, he, Below.refl _ _, fun Φ L => .bool _⟩
theorem pre_iff {a b : List UInt8} : List.isPrefixOf b a = true ↔ (b.length ≤ a.length ∧ a.take b.length = b) := by
  rw [List.isPrefixOf_iff_prefix]
  constructor
  · rintro ⟨c, rfl⟩
    exact ⟨by simp, by simp⟩
  · rintro ⟨h1, h2⟩
    exact ⟨a.drop b.length, by have := List.take_append_drop b.length a; rw [h2] at this; exact this⟩
theorem f14_ok : FSpecOk Tryd.prog 14 wAll := by
  intro x n hp
  obtain ⟨l, who, may, on, name, u⟩ := x; change List T37.D at l; change List UInt8 at who name; change Int at may on
  refine FnOk_intro [.one .w] Tryd.func14 rfl ?_
  intro hw C hC
  have hΓ := CtrOk.add f27_ok rfl (CtrOk.add f31_ok rfl (CtrOk.add f32_ok rfl (CtrOk.add f33_ok rfl (noC_ok : CtrsOk Tryd.prog noC))))
  refine AWp_cut hΓ mixed tau ⟨[.sl T37 l, .str who, .int .i64 may, .int .i64 on, .str name] ++ List.replicate 91 .any, []⟩ True [] (by simp [hC]) ?_ fun _ => ?_
  · simp [Tryd.f14]
  obtain ⟨A, hA⟩ : ∃ A, A = (showOk l && nameB who && nameB name && inB may 1 3 && inB on 1 2) := ⟨_, rfl⟩
  have hall : allowB l who may on name = (A && allowL who may on name l) := by unfold allowB; rw [hA]
  refine AWp_cut hΓ mixed tau ⟨[.sl T37 l, .str who, .int .i64 may, .int .i64 on, .str name] ++ List.replicate 91 .any, []⟩ (A = true) [] (by simp [hC]) ?_ fun h0 => ?_
  · simp [wShowI, wN, wB, maxB]
    refine ⟨fun h => ?_, fun a b c d e => by rw [hA, a, b, c, d, e]; rfl⟩
    have e : A = false := by rw [hA]; simp; clear hΓ; grind
    simp [↓retQ_ret, ↓retQ_normal, wAll, hall, e]
  refine AWp_cut hΓ mixed tau ⟨[.sl T37 l, .str who, .int .i64 may, .int .i64 on, .str name] ++ List.replicate 8 .any ++ [.bool false] ++ List.replicate 82 .any, []⟩ True [] (by simp [hC]) ?_ fun _ => ?_
  · simp
  obtain ⟨Y, hY⟩ : ∃ Y : Nat → Bool, Y = fun i => (l.take i).any (fun r => matchB who may on name r && !r.1) := ⟨_, rfl⟩
  have hY0 : Y 0 = false := by rw [hY]; simp
  have hYs : ∀ i, i < l.length → Y (i + 1) = (Y i || (matchB who may on name (nth T37 l i) && !(nth T37 l i).1)) := fun i h => by
    rw [hY]
    show (l.take (i + 1)).any _ = _
    rw [take_nth (T := T37) h, List.any_append]; simp
  have hmem : ∀ i, i < l.length → nth T37 l i ∈ l := fun i h => by
    unfold nth
    rw [List.getD_eq_getElem?_getD, List.getElem?_eq_getElem h]
    exact List.getElem_mem h
  refine AWp_cut hΓ mixed tau ⟨[.sl T37 l, .str who, .int .i64 may, .int .i64 on, .str name] ++ List.replicate 8 .any ++ [.bool (allowL who may on name l)] ++ List.replicate 82 .any, []⟩ True [] (by simp [hC]) ?_ fun _ => ?_
  · simp
    intro hmx
    refine AWp_loop_ind hΓ mixed tau (fun i : Nat => ⟨[.sl T37 l, .str who, .int .i64 may, .int .i64 on, .str name] ++ List.replicate 8 .any ++ [.bool (Y i)] ++ List.replicate 29 .any ++ [.sl T37 l, .int .i64 l.length, .int .i64 i] ++ List.replicate 50 .any, []⟩) (fun i => l.length - i) (fun i => i ≤ l.length ∧ ∀ j, j < i → matchB who may on name (nth T37 l j) = true → (nth T37 l j).1 = false) 0 [] ?_ ?_ ?_
    · simp [hC, hY0]
    · simp
    rintro i ⟨hi, ht⟩
    have hxe : l.length ≤ i → allowL who may on name l = Y i := fun h => by
      rw [allowL_take fun r hr => ?_, hY]
      · show _ = (l.take i).any _
        rw [List.take_of_length_le h]
      · obtain ⟨j, hj, e⟩ := List.mem_iff_getElem.1 hr
        have := ht j (by omega)
        have e2 : nth T37 l j = r := by unfold nth; rw [List.getD_eq_getElem?_getD, List.getElem?_eq_getElem hj, e]; rfl
        rw [e2] at this
        rintro ⟨a, b⟩
        rw [this a] at b; cases b
    have w2 : i < l.length → IntKind.i64.wrap ((i : Int) + 1) = i + 1 := fun h => wrap64_id (by omega)
    rcases hf : nth T37 l i with ⟨d, rw, rm, ro, rn, bg⟩
    change Bool at d bg; change List UInt8 at rw rn; change Int at rm ro
    have key : ∀ j, j < i + 1 → (j = i → matchB who may on name (d, rw, rm, ro, rn, bg) = true → d = false) → matchB who may on name (nth T37 l j) = true → (nth T37 l j).1 = false := fun j hj h => by
      rcases Nat.lt_succ_iff_lt_or_eq.1 hj with e | e
      · exact ht j e
      · subst e; rw [hf]; exact h rfl
    have hY1 : i < l.length → Y (i + 1) = (Y i || (matchB who may on name (d, rw, rm, ro, rn, bg) && !d)) := fun h => by
      have := hYs i h
      rw [hf] at this
      exact this
    have hno : i < l.length → matchB who may on name (d, rw, rm, ro, rn, bg) = true → d = true → allowB l who may on name = false := fun h hm hd => by
      rw [hall]
      have : allowL who may on name l = false := allowL_no (r := (d, rw, rm, ro, rn, bg)) (by have := hmem i h; rwa [hf] at this) hm hd
      rw [this]; simp
    have hM : matchB who may on name (d, rw, rm, ro, rn, bg) = true ↔ ((rw = [42] ∨ rw = who) ∧ (rm = 4 ∨ rm = may) ∧ ro = on ∧ (rn = name ∨ (bg = true ∧ List.isPrefixOf rn name = true))) := by
      unfold matchB
      simp only [Bool.and_eq_true, Bool.or_eq_true, decide_eq_true_eq]
      constructor
      · rintro ⟨⟨⟨a, b⟩, c⟩, e⟩; exact ⟨a, b, c, e⟩
      · rintro ⟨a, b, c, e⟩; exact ⟨⟨⟨a, b⟩, c⟩, e⟩
    generalize matchB who may on name (d, rw, rm, ro, rn, bg) = M at key hY1 hno hM
    have hy : ∃ y, y = Y i := ⟨_, rfl⟩
    obtain ⟨y, hy⟩ := hy
    have hy1 : ∃ y, y = Y (i + 1) := ⟨_, rfl⟩
    obtain ⟨y1, hy1⟩ := hy1
    rw [← hy, ← hy1] at hY1
    rw [← hy] at hxe ⊢
    simp (maxSteps := 8000000) [wPre, maxB, hf]
    clear hf hy ht hYs hmem hY
    repeat' (first | with_reducible refine And.intro ?_ ?_ | with_reducible intro _ | (show ¬ _; intro _))
    all_goals first
      | assumption
      | omega
      | (show (_ : Bool) = true; kernel_rfl)
      | exact (hxe (by assumption)).symm
      | (refine ⟨i + 1, ⟨by omega, fun j hj => key j hj fun _ hm => ?_⟩, by omega, [], by simp [hC], by decide, ⟨?_, w2 (by assumption)⟩, by simp [leH]⟩
         · clear hΓ hall key; first | assumption | (have := hM.1 hm; grind)
         · have h1 := hY1 (by assumption)
           rw [← hy1, h1]
           clear hΓ hall key
           first
             | (have e : M = false := Bool.eq_false_iff.2 (fun hm => by have := hM.1 hm; grind)
                rw [e]; simp; done)
             | (have e : M = true := hM.2 (by grind)
                rw [e, (by assumption : d = false)]; simp; done))
      | (have e := hno (by assumption) (hM.2 (by clear hΓ hall key; grind)) (by assumption)
         simp [↓retQ_ret, ↓retQ_normal, wAll, e]; done)
      | (clear hΓ hall key; grind)
      | trace_state
  refine ACode_ok (τ := tau) hΓ mixed _ _ _ ?_
  simp
  simp [↓retQ_ret, ↓retQ_normal, wAll, hall, h0]
end Go.Proofs.YtmbnmbgihcmapaaDoor
