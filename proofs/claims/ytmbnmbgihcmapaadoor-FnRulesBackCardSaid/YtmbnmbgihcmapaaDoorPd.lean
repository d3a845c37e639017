/- Parsing rules: what a text is parsed to; the walk of the program's ParseRules. -/
import Derived.Test.YtmbnmbgihcmapaaDoorPc
namespace Go.Proofs.YtmbnmbgihcmapaaDoor
open Go Go.RowKit
set_option linter.all false
set_option pp.deepTerms true
set_option pp.maxSteps 200000
set_option maxRecDepth 100000
set_option maxHeartbeats 8000000
def lineOk (l : List UInt8) : Bool := decide (l.getLast? = some 10) && parB l.dropLast
def prsL : List (List UInt8) → Nat → List Rule → List Rule × Nat
  | [], _, acc => (acc, 0)
  | l :: ls, i, acc => if lineOk l = true ∧ i < 100 then prsL ls (i + 1) (acc ++ [parR l.dropLast]) else ([], i + 1)
def prs (s : List UInt8) : List Rule × Nat := if 4000 < s.length then ([], 1) else prsL (linesL s) 0 []
theorem lineOk_snoc (u : List UInt8) : lineOk (u ++ [10]) = parB u := by unfold lineOk; simp
theorem lineOk_no {u : List UInt8} (h : ∀ c ∈ u, c ≠ 10) : lineOk u = false := by
  unfold lineOk
  have : ¬ u.getLast? = some 10 := fun e => h 10 (List.mem_of_getLast? e) rfl
  simp [this]
def wPrs : Spec [(false, .str)] := ⟨fun x => x.1.length ≤ 1048576, fun x n => .tup [.osl n (prs x.1).1.length, .int .i64 (prs x.1).2], fun x => [.arr T37 37 (prs x.1).1]⟩
theorem f19_ok : FSpecOk Tryd.prog 19 wPrs := by
  intro x n hp
  obtain ⟨s, u⟩ := x; change List UInt8 at s
  have hp : s.length ≤ 1048576 := hp
  refine FnOk_intro [.one (.own T37 37), .one .w] Tryd.func19 rfl ?_
  intro hw C hC
  have hΓ := CtrOk.add f47_ok rfl (CtrsOk.addH f48_ok rfl (noC_ok : CtrsOk Tryd.prog noC))
  refine AWp_cut hΓ mixed tau ⟨[.str s, .any, .nilsl, .int .i64 0] ++ List.replicate 42 .any, []⟩ True [] (by simp [hC]) ?_ fun _ => ?_
  · simp [Tryd.f19]
  refine AWp_cut hΓ mixed tau ⟨[.str s, .any, .nilsl, .int .i64 0] ++ List.replicate 42 .any, []⟩ (s.length ≤ 4000) [] (by simp [hC]) ?_ fun h4 => ?_
  · simp
    repeat' (first | with_reducible refine And.intro ?_ ?_ | with_reducible intro _ | (show ¬ _; intro _))
    all_goals first
      | omega
      | (have e : prs s = ([], 1) := by unfold prs; rw [if_pos (by omega)]
         simp [↓retQ_ret, wPrs, e, expVs, expV, expC]; done)
      | trace_state
  refine AWp_cut hΓ mixed tau ⟨[.str s, .any, .nilsl, .int .i64 0, .nilsl] ++ List.replicate 41 .any, []⟩ True [] (by simp [hC]) ?_ fun _ => ?_
  · simp
  refine AWp_nil 4 T37 37 rfl ?_
  have hps : prs s = prsL (linesL s) 0 [] := by unfold prs; rw [if_neg (by omega)]
  refine ACode_ok (τ := tau) hΓ mixed _ _ _ ?_
  simp
  refine AWp_loop_ind hΓ mixed tau (fun y : List UInt8 × List Rule × Nat => ⟨[.str y.1, .any, .nilsl, .int .i64 0, .osl 0 y.2.1.length, .int .i64 (y.2.2 + 1 : Nat)] ++ List.replicate 40 .any, [.arr T37 37 y.2.1]⟩) (fun y => y.1.length) (fun y => y.1.length ≤ 4000 ∧ y.2.1.length = y.2.2 ∧ y.2.2 ≤ 100 ∧ prs s = prsL (linesL y.1) y.2.2 y.2.1) (s, [], 0) [0] ?_ ?_ ?_
  · simp [hC]
  · exact ⟨h4, rfl, by simp, hps⟩
  · rintro ⟨r, acc, i⟩ ⟨h1, h2, h3, h5⟩
    change List UInt8 at r; change List Rule at acc
    have h1 : r.length ≤ 4000 := h1
    have h2 : acc.length = i := h2
    have h3 : i ≤ 100 := h3
    have h5 : prs s = prsL (linesL r) i acc := h5
    have hc := cut_line 10 r
    have hcl := cut_le r [10]
    simp [wCut, wParse, maxB]
    generalize Lib.cut r [10] = ct at *
    obtain ⟨cu, cv, cf⟩ := ct
    simp only at hc hcl ⊢
    have hline : r ≠ [] → (cf = true ∧ parB cu = true ∧ i < 100 → prs s = prsL (linesL cv) (i + 1) (acc ++ [parR cu])) ∧ (¬ (cf = true ∧ parB cu = true ∧ i < 100) → prs s = ([], i + 1)) := by
      intro hr
      rcases hc with ⟨e1, e2, e3, e4⟩ | ⟨e1, e2, e4⟩
      · refine ⟨fun h => by rw [e1] at h; exact absurd h.1 (by simp), fun _ => ?_⟩
        rw [h5, linesL_no e4, if_neg hr, prsL, if_neg (by rw [lineOk_no e4]; simp)]
      · have hl : linesL r = (cu ++ [10]) :: linesL cv := by rw [e2, linesL_cut e4]
        rw [h5, hl, prsL, lineOk_snoc, List.dropLast_concat]
        exact ⟨fun h => by rw [if_pos ⟨h.2.1, h.2.2⟩], fun h => by rw [if_neg fun k => h ⟨e1, k.1, k.2⟩]⟩
    refine ⟨fun hr => ⟨by omega, by omega, fun hf => ?_, fun g1 g2 g3 => ?_⟩, fun hr => ?_⟩
    · have e : prs s = ([], i + 1) := (hline hr).2 fun ⟨k1, k2, k3⟩ => by
        rcases hf with (k | k) | k
        · rw [k] at k1; cases k1
        · rw [k] at k2; cases k2
        · omega
      simp [↓retQ_ret, wPrs, e, expVs, expV, expC]
    · have e := (hline hr).1 ⟨g1, g2, by omega⟩
      have hlt : cv.length < r.length := by
        rcases hc with ⟨e1, _⟩ | ⟨_, e2, _⟩
        · rw [e1] at g1; cases g1
        · rw [e2]; simp; omega
      have w : IntKind.i64.wrap ((i : Int) + 1 + 1) = ((i + 1 : Nat) : Int) + 1 := by rw [wrap64_id (by omega)]; omega
      exact ⟨by omega, cv, acc ++ [parR cu], i + 1, ⟨by omega, by simp [h2], by omega, e⟩, hlt, [3], by simp [hC], by decide, ⟨rfl, ⟨rfl, by simp⟩, w⟩, by simp [leH, leO]⟩
    · subst hr
      have e : prs s = (acc, 0) := h5
      simp [↓retQ_ret, wPrs, e, expVs, expV, expC]
end Go.Proofs.YtmbnmbgihcmapaaDoor
