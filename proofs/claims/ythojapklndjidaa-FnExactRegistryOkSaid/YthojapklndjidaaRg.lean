/- Registries: what is in order (plain), and the contract of what gathers versions. -/
import Derived.Test.YthojapklndjidaaSe
import Derived.Test.YthojapklndjidaaWe
namespace Go.Proofs.Ythojapklndjidaa
open Go Go.RowKit
set_option linter.all false
set_option pp.deepTerms true
set_option pp.maxSteps 200000
set_option maxRecDepth 100000
set_option maxHeartbeats 8000000
theorem sLt_nil (a : List UInt8) : sLt a [] = false := by cases a <;> rfl
theorem sLt_cons (a b : UInt8) (x y : List UInt8) : sLt (a :: x) (b :: y) = (decide (a < b) || (decide (a = b) && sLt x y)) := by
  show (decide (a < b) || (a == b && Op.bytesLess x y)) = _
  rw [beq_dec]; rfl
theorem sLt_irrefl : ∀ a : List UInt8, sLt a a = false
  | [] => rfl
  | a :: x => by
    rw [sLt_cons, sLt_irrefl x]
    have : ¬ a < a := UInt8.lt_irrefl a
    simp [this]
theorem sLt_asymm : ∀ {a b : List UInt8}, sLt a b = true → sLt b a = false
  | [], [], h => by cases h
  | [], _ :: _, h => sLt_nil _
  | _ :: _, [], h => by rw [sLt_nil] at h; cases h
  | a :: x, b :: y, h => by
    rw [sLt_cons] at h ⊢
    simp only [Bool.or_eq_true, Bool.and_eq_true, decide_eq_true_eq, Bool.or_eq_false_iff, Bool.and_eq_false_iff, decide_eq_false_iff_not] at h ⊢
    rcases h with h | ⟨h, h2⟩
    · exact ⟨fun e => UInt8.lt_asymm h e, .inl fun e => by subst e; exact UInt8.lt_irrefl _ h⟩
    · subst h
      exact ⟨UInt8.lt_irrefl _, .inr (sLt_asymm h2)⟩
theorem sLt_tri : ∀ {a b : List UInt8}, sLt a b = false → sLt b a = false → a = b
  | [], [], _, _ => rfl
  | [], _ :: _, h, _ => by cases h
  | _ :: _, [], _, h => by cases h
  | a :: x, b :: y, h, k => by
    rw [sLt_cons] at h k
    simp only [Bool.or_eq_false_iff, Bool.and_eq_false_iff, decide_eq_false_iff_not] at h k
    have e : a = b := by
      have h1 := h.1
      have k1 := k.1
      rw [UInt8.not_lt] at h1 k1
      exact UInt8.le_antisymm k1 h1
    subst e
    rw [sLt_tri (h.2.resolve_left (by simp)) (k.2.resolve_left (by simp))]
theorem sLt_trans : ∀ {a b c : List UInt8}, sLt a b = true → sLt b c = true → sLt a c = true
  | _, [], _, h, _ => by rw [sLt_nil] at h; cases h
  | _, _ :: _, [], _, h => by rw [sLt_nil] at h; cases h
  | [], _ :: _, _ :: _, _, _ => rfl
  | a :: x, b :: y, c :: z, h, k => by
    rw [sLt_cons] at h k ⊢
    simp only [Bool.or_eq_true, Bool.and_eq_true, decide_eq_true_eq] at h k ⊢
    rcases h with h | ⟨h, h2⟩
    · rcases k with k | ⟨k, k2⟩
      · exact .inl (UInt8.lt_trans h k)
      · subst k; exact .inl h
    · subst h
      rcases k with k | ⟨k, k2⟩
      · exact .inl k
      · exact .inr ⟨k, sLt_trans h2 k2⟩
/-- a stands ahead of b: said in the other way. -/
theorem sLt_not {a b : List UInt8} : (sLt a b || decide (a = b)) = false ↔ sLt b a = true := by
  constructor
  · intro h
    simp only [Bool.or_eq_false_iff, decide_eq_false_iff_not] at h
    cases hb : sLt b a with
    | true => rfl
    | false => exact absurd (sLt_tri h.1 hb) h.2
  · intro h
    have h1 := sLt_asymm h
    simp only [Bool.or_eq_false_iff, decide_eq_false_iff_not]
    exact ⟨h1, fun e => by subst e; rw [sLt_irrefl] at h; cases h⟩

theorem AWp_loop_w {P : Program} {C : Ctx} {α : Type} {c : Code} {S : St} {Q : AExit → St → Prop} (St' : α → St) (μ : α → Nat) (I : α → Prop) (x0 : α) (ps0 : List Nat) (h0 : (∀ i, i < C.L0.length → ps0[i]? = some i) ∧ St.le ps0 S (St' x0)) (hI0 : I x0)
    (round : ∀ x, I x → AWp P C c (St' x) (thenQ (fun S' => ∃ y ps, I y ∧ μ y < μ x ∧ (∀ i, i < C.L0.length → ps[i]? = some i) ∧ St.le ps S' (St' y)) Q)) : AWp P C (.loop c) S Q := by
  refine AWp_sub ps0 h0.1 h0.2 (AWp_loop St' μ I (fun x hx => ?_) x0 hI0)
  refine (round x hx).mono fun e S' hq => ?_
  cases e with
  | normal =>
    obtain ⟨y, ps, h1, h2, h4, h3⟩ := hq
    exact ⟨y, h1, h2, fun Φ L a w hc => ⟨_, _, hc.sub h4 h3⟩⟩
  | exit i => exact hq
  | ret => exact hq
theorem AWp_cutW {P : Program} {C : Ctx} {x y : Code} {S : St} {Q : AExit → St → Prop} (S1 : St) (F : Prop) (ps : List Nat) (hpre : ∀ i, i < C.L0.length → ps[i]? = some i)
    (h1 : AWp P C x S (thenQ (fun S' => F ∧ St.le ps S' S1) Q)) (h2 : F → AWp P C y S1 Q) : AWp P C (.seq x y) S Q := by
  refine AWp_seq (h1.mono fun e S' hq => ?_)
  cases e with
  | normal => exact AWp_sub ps hpre hq.2 (h2 hq.1)
  | exit i => exact hq
  | ret => exact hq
theorem AWp_cutEW {α : Type} {P : Program} {C : Ctx} {x y : Code} {S : St} {Q : AExit → St → Prop} (S1 : α → St) (F : α → Prop)
    (h1 : AWp P C x S (thenQ (fun S' => ∃ z ps, F z ∧ (∀ i, i < C.L0.length → ps[i]? = some i) ∧ St.le ps S' (S1 z)) Q)) (h2 : ∀ z, F z → AWp P C y (S1 z) Q) : AWp P C (.seq x y) S Q := by
  refine AWp_seq (h1.mono fun e S' hq => ?_)
  cases e with
  | normal =>
    obtain ⟨z, ps, h1, h2', h3⟩ := hq
    exact AWp_sub ps h2' h3 (h2 z h1)
  | exit i => exact hq
  | ret => exact hq
abbrev IL := List Int
def verL (S : List T32.D) (vs : List Int) : List T32.D := vs.map fun v => nth T32 S (v - 1).toNat
def vAt (vs : List Int) (k : Nat) : Int := nth (.int .i64) vs k
def VerIn (n : Nat) (vs : List Int) (k : Nat) : Prop := 1 ≤ vAt vs k ∧ vAt vs k ≤ n ∧ vAt vs k ∉ vs.take k
def VerFit (S : List T32.D) (mode : Int) (vs : List Int) (k : Nat) : Prop := fitsB mode (verL S (vs.take k)) (nth T32 S (vAt vs k - 1).toNat) = true
def HeadOk (J : List T101.D) (i : Nat) : Prop := nameB (nth T101 J i).1 = true ∧ (0 < i → sLt (nth T101 J (i - 1)).1 (nth T101 J i).1 = true) ∧ modeB (nth T101 J i).2.1 = true ∧ List.length (nth T101 J i).2.2 ≤ 20
def SubOk (S : List T32.D) (J : List T101.D) (i : Nat) : Prop := HeadOk J i ∧ (∀ k, k < List.length (nth T101 J i).2.2 → VerIn S.length (nth T101 J i).2.2 k) ∧ ∀ k, k < List.length (nth T101 J i).2.2 → VerFit S (nth T101 J i).2.1 (nth T101 J i).2.2 k
def SchOk (S : List T32.D) (i : Nat) : Prop := schemaB (nth T32 S i) = true ∧ ∀ k, k < i → ¬ (nth T32 S k = nth T32 S i)
def Used (J : List T101.D) (i : Nat) (v : Int) : Prop := ∃ j, j < i ∧ v ∈ (show List Int from (nth T101 J j).2.2)
def RegP (S : List T32.D) (J : List T101.D) : Prop := S.length ≤ 400 ∧ J.length ≤ 20 ∧ (∀ i, i < S.length → SchOk S i) ∧ (∀ i, i < J.length → SubOk S J i) ∧ ∀ j : Nat, j < S.length → Used J J.length ((j : Int) + 1)
noncomputable def regB (S : List T32.D) (J : List T101.D) : Bool := @decide (RegP S J) (Classical.propDecidable _)
theorem regB_yes {S : List T32.D} {J : List T101.D} (h : RegP S J) : regB S J = true := by unfold regB; exact @decide_eq_true _ (Classical.propDecidable _) h
theorem regB_no {S : List T32.D} {J : List T101.D} (h : ¬ RegP S J) : regB S J = false := by unfold regB; exact @decide_eq_false _ (Classical.propDecidable _) h
theorem verL_take (S : List T32.D) {vs : List Int} {k : Nat} (h : k < vs.length) : verL S (vs.take (k + 1)) = verL S (vs.take k) ++ [nth T32 S (vAt vs k - 1).toNat] := by
  unfold verL vAt
  rw [take_nth (T := .int .i64) h, List.map_append]; rfl
theorem verL_len (S : List T32.D) (vs : List Int) : (verL S vs).length = vs.length := by unfold verL; simp
theorem verL_map_take (S : List T32.D) (vs : List Int) (k : Nat) : (verL S vs).take k = verL S (vs.take k) := by unfold verL; rw [List.map_take]
theorem verL_nth (S : List T32.D) {vs : List Int} {k : Nat} (h : k < vs.length) : nth T32 (verL S vs) k = nth T32 S (vAt vs k - 1).toNat := by
  unfold verL vAt nth
  rw [List.getD_eq_getElem?_getD, List.getElem?_map, List.getD_eq_getElem?_getD (l := vs), List.getElem?_eq_getElem h]
  rfl
def wVs : HSpec [.val true T56, .val true T101] := ⟨fun x => x.1.1.length ≤ 16777216 ∧ x.2.1.2.2.length ≤ 20 ∧ ∀ k, k < x.2.1.2.2.length → 1 ≤ vAt x.2.1.2.2 k ∧ vAt x.2.1.2.2 k ≤ x.1.1.length, fun x => .osl 0 (verL x.1.1 x.2.1.2.2).length, fun x => [.arr T32 32 (verL x.1.1 x.2.1.2.2)]⟩
theorem f68_ok : HSpecOk Try.prog 68 wVs := by
  intro x hp
  obtain ⟨⟨S, J⟩, ⟨nm, md, vs⟩, u⟩ := x; change List T32.D at S; change List T101.D at J; change List UInt8 at nm; change Int at md; change List Int at vs
  obtain ⟨hS, h1, h2⟩ : S.length ≤ 16777216 ∧ vs.length ≤ 20 ∧ ∀ k, k < vs.length → 1 ≤ vAt vs k ∧ vAt vs k ≤ S.length := hp
  refine HOk_intro [true] [] rfl Try.func68 rfl ?_
  intro hw C hC
  have hΓ := (noC_ok : CtrsOk Try.prog noC)
  refine AWp_cut hΓ mixed tau ⟨[.any, .any, .ptr 0 0, .ptr 1 0] ++ List.replicate 22 .any, [.cells 56 [.sl T32 S, .sl T101 J], .cells 101 [.str nm, .int .i64 md, .sl (.int .i64) vs]]⟩ True [0, 1] (by simp [hC, encOs]) ?_ fun _ => ?_
  · simp [Try.f68]
  refine AWp_cut hΓ mixed tau ⟨[.any, .any, .ptr 0 0, .ptr 1 0, .any, .nilsl] ++ List.replicate 20 .any, [.cells 56 [.sl T32 S, .sl T101 J], .cells 101 [.str nm, .int .i64 md, .sl (.int .i64) vs]]⟩ True [0, 1] (by simp [hC, encOs]) ?_ fun _ => ?_
  · simp
  refine AWp_nil 5 T32 32 rfl ?_
  refine AWp_cut hΓ mixed tau ⟨[.any, .any, .any, .any, .any, .osl 0 (verL S vs).length] ++ List.replicate 20 .any, [.arr T32 32 (verL S vs)]⟩ True [2] (by simp [hC, encOs]) ?_ fun _ => ?_
  · simp
    intro hmx
    refine AWp_loop_ind hΓ mixed tau (fun k : Nat => ⟨[.any, .any, .ptr 0 0, .ptr 1 0, .any, .osl 2 (verL S (vs.take k)).length, .any, .any, .any, .sl (.int .i64) vs, .int .i64 vs.length, .int .i64 k] ++ List.replicate 14 .any, [.cells 56 [.sl T32 S, .sl T101 J], .cells 101 [.str nm, .int .i64 md, .sl (.int .i64) vs], .arr T32 32 (verL S (vs.take k))]⟩) (fun k => vs.length - k) (fun k => k ≤ vs.length) 0 [0, 1, 2] ?_ ?_ ?_
    · simp [hC, encOs]; exact ⟨rfl, rfl⟩
    · simp
    intro k hk
    have w1 : k < vs.length → IntKind.i64.wrap ((k : Int) + 1) = ((k + 1 : Nat) : Int) := fun h => by rw [wrap64_id (by omega)]; omega
    have hv := h2 k
    have hst := fun h => verL_take S (vs := vs) (k := k) h
    have hln := verL_len S (vs.take k)
    have hl2 : (vs.take k).length = k := by rw [List.length_take]; omega
    have hend : vs.length ≤ k → verL S (vs.take k) = verL S vs := fun h => by rw [List.take_of_length_le h]
    have hfull : List.take (verL S (vs.take k)).length (verL S (vs.take k)) = verL S (vs.take k) := List.take_of_length_le (Nat.le_refl _)
    have hvv : vAt vs k = nth (.int .i64) vs k := rfl
    rw [hvv] at hv hst
    generalize hX : nth (.int .i64) vs k = X at *
    change Int at X
    have wx : k < vs.length → IntKind.i64.wrap (X - 1) = X - 1 := fun h => by have := hv h; rw [wrap64_id (by omega)]
    rcases hf : nth T32 S (X - 1).toNat with ⟨sn, sf⟩
    have hf2 : k < vs.length → nth T32 S (X.toNat - 1) = (sn, sf) := fun h => by have := hv h; rw [← hf]; congr 1; omega
    rw [hf] at hst
    generalize hQ : verL S (vs.take k) = Q at *
    simp (maxSteps := 4000000) [maxB, hX]
    repeat' (first | with_reducible refine And.intro ?_ ?_ | with_reducible intro _ | (show ¬ _; intro _))
    all_goals first
      | omega
      | (have e := hst (by assumption)
         exact ⟨k + 1, by omega, by omega, [0, 1, 4], by simp [hC, encOs], by decide, ⟨rfl, rfl, ⟨rfl, by rw [e]; simp⟩, w1 (by assumption)⟩, by rw [e]; simp [leH, leO, leT, leA, hfull, wx (by assumption), hf2 (by assumption)]⟩)
      | (rw [hend (by assumption)])
      | trace_state
  refine ACode_ok (τ := tau) hΓ mixed _ _ _ ?_
  simp
  simp [↓retHQ_ret, ↓retHQ_normal, wVs]
end Go.Proofs.Ythojapklndjidaa
