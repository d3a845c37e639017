/- Parsing rules: what a line is parsed to; the walk of the program's parseRule. -/
import Derived.Test.YtmbnmbgihcmapaaDoorPb
namespace Go.Proofs.YtmbnmbgihcmapaaDoor
open Go Go.RowKit
set_option linter.all false
set_option pp.deepTerms true
set_option pp.maxSteps 200000
set_option maxRecDepth 100000
set_option maxHeartbeats 8000000
def allowW : List UInt8 := [97, 108, 108, 111, 119]
def denyW : List UInt8 := [100, 101, 110, 121]
def isAD (w : List UInt8) : Bool := decide (w = allowW) || decide (w = denyW)
def mkRule (ws : List (List UInt8)) : Rule :=
  (decide (nth .str ws 0 = denyW), nth .str ws 1, (idxL mayW (nth .str ws 2) : Int), (idxL onW (nth .str ws 3) : Int), Lib.trimSuffix (nth .str ws 4) [42], Lib.hasSuffix (nth .str ws 4) [42])
def parR (line : List UInt8) : Rule := if (wordsL line).length = 5 then mkRule (wordsL line) else (false, [], 0, 0, [], false)
def parB (line : List UInt8) : Bool := decide ((wordsL line).length = 5) && isAD (nth .str (wordsL line) 0) && ruleB (mkRule (wordsL line))
def joinW : List (List UInt8) → List UInt8
  | [] => []
  | [w] => w
  | w :: v :: ws => w ++ 32 :: joinW (v :: ws)
theorem wordsL_ne (s : List UInt8) : wordsL s ≠ [] := by
  cases s with
  | nil => simp [wordsL]
  | cons c s => unfold wordsL; split
                · simp
                · split <;> simp
theorem joinW_words : ∀ s : List UInt8, joinW (wordsL s) = s
  | [] => rfl
  | c :: s => by
    have ih := joinW_words s
    unfold wordsL
    split
    · rename_i h
      cases e : wordsL s with
      | nil => exact absurd e (wordsL_ne s)
      | cons w ws => rw [e] at ih; simp [joinW, ih, h]
    · split
      · rename_i e; exact absurd e (wordsL_ne s)
      · rename_i w ws e
        rw [e] at ih
        cases ws with
        | nil => simp [joinW] at ih ⊢; exact ih
        | cons v ws => simp [joinW] at ih ⊢; exact ih
theorem idx_may (w : List UInt8) : idxL mayW w ≤ 4 ∧ (1 ≤ idxL mayW w → nth .str mayW (idxL mayW w) = w) := by
  unfold idxL mayW
  simp only [List.drop_succ_cons, List.drop_zero, idxA]
  repeat' split
  all_goals first | (rename_i h; subst h; exact ⟨by omega, fun _ => rfl⟩) | exact ⟨by omega, fun h => absurd h (by omega)⟩
theorem idx_on (w : List UInt8) : idxL onW w ≤ 2 ∧ (1 ≤ idxL onW w → nth .str onW (idxL onW w) = w) := by
  unfold idxL onW
  simp only [List.drop_succ_cons, List.drop_zero, idxA]
  repeat' split
  all_goals first | (rename_i h; subst h; exact ⟨by omega, fun _ => rfl⟩) | exact ⟨by omega, fun h => absurd h (by omega)⟩
theorem star_back (w : List UInt8) : Lib.trimSuffix w [42] ++ starW (Lib.hasSuffix w [42]) = w := by
  unfold Lib.trimSuffix starW
  split
  · rename_i h
    have h2 : [42].isSuffixOf w = true := h
    rw [List.isSuffixOf_iff_suffix] at h2
    obtain ⟨u, rfl⟩ := h2
    simp
  · simp
theorem trim_le (w p : List UInt8) : (Lib.trimSuffix w p).length ≤ w.length := by
  unfold Lib.trimSuffix; split <;> simp
theorem head_iff (w : List UInt8) (X : List UInt8) : (headW (decide (w = denyW)) ++ X = w ++ 32 :: X) ↔ isAD w = true := by
  rw [show w ++ 32 :: X = (w ++ [32]) ++ X by simp, List.append_cancel_right_eq]
  unfold isAD headW
  by_cases h : w = denyW
  · subst h; simp [denyW]
  · simp only [h, decide_false, Bool.or_false, decide_eq_true_eq, Bool.false_eq_true, if_false]
    constructor
    · intro e
      have : [97, 108, 108, 111, 119] ++ [32] = w ++ [32] := e
      exact (List.append_cancel_right this).symm
    · rintro rfl; rfl
theorem line_back {line a b c d e : List UInt8} (h : wordsL line = [a, b, c, d, e]) (hr : ruleB (mkRule [a, b, c, d, e]) = true) : lineR (mkRule [a, b, c, d, e]) = line ++ [10] ↔ isAD a = true := by
  have hj := joinW_words line
  rw [h] at hj
  obtain ⟨p1, p2, p3, p4⟩ := rule_parts hr
  have q2 : (1 : Int) ≤ (idxL mayW c : Nat) := by
    have := p2; simp only [mkRule] at this; exact (by simpa [inB, nth] using this : (1 : Int) ≤ _ ∧ _).1
  have q3 : (1 : Int) ≤ (idxL onW d : Nat) := by
    have := p3; simp only [mkRule] at this; exact (by simpa [inB, nth] using this : (1 : Int) ≤ _ ∧ _).1
  have m2 := (idx_may c).2 (by omega)
  have m3 := (idx_on d).2 (by omega)
  have m4 := star_back e
  have hl : lineR (mkRule [a, b, c, d, e]) = headW (decide (a = denyW)) ++ (b ++ 32 :: (c ++ 32 :: (d ++ 32 :: (e ++ [10])))) := by
    show headW (decide (a = denyW)) ++ (b ++ ([32] ++ (nth .str mayW ((idxL mayW c : Nat) : Int).toNat ++ ([32] ++ (nth .str onW ((idxL onW d : Nat) : Int).toNat ++ ([32] ++ (Lib.trimSuffix e [42] ++ (starW (Lib.hasSuffix e [42]) ++ [10])))))))) = _
    rw [Int.toNat_natCast, Int.toNat_natCast, m2, m3, ← List.append_assoc (Lib.trimSuffix e [42]), m4]
    simp
  have hr2 : line ++ [10] = a ++ 32 :: (b ++ 32 :: (c ++ 32 :: (d ++ 32 :: (e ++ [10])))) := by
    rw [← hj]; simp [joinW]
  rw [hl, hr2]
  exact head_iff a _
def wParse : HSpec [.val false .str] := ⟨fun x => x.1.length ≤ 1048576, fun x => .tup [.agg (flat T37 (parR x.1)), .bool (parB x.1)], fun _ => []⟩
theorem f48_ok : HSpecOk Tryd.prog 48 wParse := by
  intro x hp
  obtain ⟨s, u⟩ := x; change List UInt8 at s
  have hp : s.length ≤ 1048576 := hp
  refine HOk_intro [false, false] [] rfl Tryd.func48 rfl ?_
  intro hw C hC
  have hΓ := CtrsOk.addP (id := 4) (p := .take 0 (.take 1 (.take 2 (.take 3 (.take 4 (.take 5 (.take 6 (.take 7 (.take 8 (.take 9 (.take 10 (.take 12 (.take 13 (.take 14 (.take 15 (.two 11 18 (.two 16 18 (.two 17 18 (.one 18 (.one 19 (.done))) (.one 17 (.one 19 (.done)))) (.one 16 (.one 17 (.one 19 (.done))))) (.one 11 (.one 16 (.one 17 (.one 19 (.done))))))))))))))))))))) (CtrsOk.addPX (id := 6) (X := [0]) (p := .take 0 (.take 1 (.one 2 (.one 3 (.two 4 6 (.two 5 6 (.two 6 10 (.two 7 10 (.two 8 10 (.two 9 10 (.one 10 (.one 11 (.done))) (.one 9 (.one 11 (.done)))) (.one 8 (.one 9 (.one 11 (.done))))) (.one 7 (.one 8 (.one 9 (.one 11 (.done)))))) (.one 6 (.one 7 (.one 8 (.one 9 (.one 11 (.done))))))) (.two 5 7 (.two 7 10 (.two 8 10 (.two 9 10 (.one 10 (.one 11 (.done))) (.one 9 (.one 11 (.done)))) (.one 8 (.one 9 (.one 11 (.done))))) (.one 7 (.one 8 (.one 9 (.one 11 (.done)))))) (.one 5 (.two 8 10 (.two 9 10 (.one 10 (.one 11 (.done))) (.one 9 (.one 11 (.done)))) (.one 8 (.one 9 (.one 11 (.done)))))))) (.two 4 7 (.two 5 7 (.two 7 10 (.two 8 10 (.two 9 10 (.one 10 (.one 11 (.done))) (.one 9 (.one 11 (.done)))) (.one 8 (.one 9 (.one 11 (.done))))) (.one 7 (.one 8 (.one 9 (.one 11 (.done)))))) (.one 5 (.two 8 10 (.two 9 10 (.one 10 (.one 11 (.done))) (.one 9 (.one 11 (.done)))) (.one 8 (.one 9 (.one 11 (.done))))))) (.one 4 (.one 5 (.two 8 10 (.two 9 10 (.one 10 (.one 11 (.done))) (.one 9 (.one 11 (.done)))) (.one 8 (.one 9 (.one 11 (.done))))))))))))) (CtrOk.add f50_ok rfl (CtrOk.add f52_ok rfl (CtrsOk.addH f60_ok rfl (CtrOk.add f61_ok rfl (CtrOk.add f62_ok rfl (noC_ok : CtrsOk Tryd.prog noC)))))))
  refine AWp_cut hΓ mixed tau ⟨[.str s, .any, .ptr 0 0, .bool false] ++ List.replicate 45 .any, [.cells 37 (flat T37 (false, [], 0, 0, [], false))]⟩ True [0] (by simp [hC, encOs]) ?_ fun _ => ?_
  · simp [Tryd.f48]
  refine AWp_cut hΓ mixed tau ⟨[.str s, .any, .ptr 0 0, .bool false, .osl 1 (wordsL s).length] ++ List.replicate 44 .any, [.cells 37 (flat T37 (false, [], 0, 0, [], false)), .arr .str 9 (wordsL s)]⟩ True [0, 1] (by simp [hC, encOs]) ?_ fun _ => ?_
  · simp [wSplit, hp, maxB]
  refine AWp_cut hΓ mixed tau ⟨[.str s, .any, .ptr 0 0, .bool false, .osl 1 (wordsL s).length] ++ List.replicate 44 .any, [.cells 37 (flat T37 (false, [], 0, 0, [], false)), .arr .str 9 (wordsL s)]⟩ ((wordsL s).length = 5) [0, 1] (by simp [hC, encOs]) ?_ fun h5 => ?_
  · simp
    repeat' (first | with_reducible refine And.intro ?_ ?_ | with_reducible intro _ | (show ¬ _; intro _))
    all_goals first
      | omega
      | (rename_i h
         have e1 : parR s = (false, [], 0, 0, [], false) := by unfold parR; rw [if_neg (by omega)]
         have e2 : parB s = false := by unfold parB; rw [decide_eq_false (by omega)]; rfl
         simp [↓retHQ_ret, wParse, e1, e2]; done)
      | trace_state
  obtain ⟨a, b, c, d, e, hws⟩ : ∃ a b c d e, wordsL s = [a, b, c, d, e] := by
    match hws : wordsL s, h5 with
    | [a, b, c, d, e], _ => exact ⟨a, b, c, d, e, rfl⟩
  have hm := wordsL_mem s
  rw [hws] at hm ⊢
  have la := hm a (by simp); have lb := hm b (by simp); have lc := hm c (by simp); have ld := hm d (by simp); have le := hm e (by simp)
  clear hm
  have n0 : nth .str [a, b, c, d, e] 0 = a := rfl
  have n1 : nth .str [a, b, c, d, e] 1 = b := rfl
  have n2 : nth .str [a, b, c, d, e] 2 = c := rfl
  have n3 : nth .str [a, b, c, d, e] 3 = d := rfl
  have n4 : nth .str [a, b, c, d, e] 4 = e := rfl
  have i2 := (idx_may c).1
  have i3 := (idx_on d).1
  refine AWp_cut hΓ mixed tau ⟨[.str s, .any, .ptr 0 0, .bool false, .osl 1 5, .ptr 2 0] ++ List.replicate 43 .any, [.cells 37 (flat T37 (false, [], 0, 0, [], false)), .arr .str 9 [a, b, c, d, e], .cells 37 (flat T37 (decide (a = denyW), b, (idxL mayW c : Int), (idxL onW d : Int), [], false))]⟩ True [0, 1, 2] (by simp [hC, encOs]) ?_ fun _ => ?_
  · simp [wIdx, n0, n1, n2, n3, maxB, denyW, mayW, onW]
    repeat' (first | with_reducible refine And.intro ?_ ?_ | with_reducible intro _ | (show ¬ _; intro _))
    all_goals first
      | rfl
      | (congr; done)
      | (show (_ : Bool) = true; kernel_rfl)
      | trace_state
  refine AWp_cut hΓ mixed tau ⟨[.str s, .any, .ptr 0 0, .bool false, .any, .ptr 1 0] ++ List.replicate 43 .any, [.cells 37 (flat T37 (false, [], 0, 0, [], false)), .cells 37 (flat T37 (mkRule [a, b, c, d, e]))]⟩ True [0, 2] (by simp [hC, encOs]) ?_ fun _ => ?_
  · simp [wSuf, n4, maxB, mkRule]
    repeat' (first | with_reducible refine And.intro ?_ ?_ | with_reducible intro _ | (show ¬ _; intro _))
    all_goals first
      | omega
      | rfl
      | exact Iff.rfl
      | trace_state
  have hpr : parR s = mkRule [a, b, c, d, e] := by unfold parR; rw [if_pos h5, hws]
  have hpb : parB s = (isAD a && ruleB (mkRule [a, b, c, d, e])) := by unfold parB; rw [decide_eq_true h5, hws]; rfl
  have hlb := line_back hws
  generalize mkRule [a, b, c, d, e] = r at *
  obtain ⟨rd, rwh, rm, ro, rn, rst⟩ := r
  have hfin : (ruleB (rd, rwh, rm, ro, rn, rst) && decide (lineR (rd, rwh, rm, ro, rn, rst) = s ++ [10])) = (isAD a && ruleB (rd, rwh, rm, ro, rn, rst)) := by
    cases hr : ruleB (rd, rwh, rm, ro, rn, rst) with
    | false => simp
    | true =>
      have h := hlb hr
      simp only [Bool.true_and, Bool.and_true]
      cases ha : isAD a with
      | true => exact decide_eq_true (h.2 ha)
      | false => exact decide_eq_false fun e => by rw [h.1 e] at ha; cases ha
  refine ACode_ok (τ := tau) hΓ mixed _ _ _ ?_
  simp (maxSteps := 4000000) [wRule, wLine, maxB]
  refine ⟨by (show (_ : Bool) = true); kernel_rfl, ?_⟩
  repeat' (first | with_reducible refine And.intro ?_ ?_ | with_reducible intro _ | (show ¬ _; intro _))
  all_goals first
    | omega
    | assumption
    | (simp [↓retHQ_ret, wParse, hpr, hpb]; exact hfin)
    | trace_state
end Go.Proofs.YtmbnmbgihcmapaaDoor
