/- Rows read from bytes: the walk of the program's ReadRow. -/
import Derived.Test.YthojapklndjidaaRv
namespace Go.Proofs.Ythojapklndjidaa
open Go Go.RowKit
set_option linter.all false
set_option pp.deepTerms true
set_option pp.maxSteps 200000
set_option maxRecDepth 100000
set_option maxHeartbeats 16000000
theorem fail_in {b : List UInt8} {a c y : Int} : (rdFail (b, a, c) y).1 = b ∧ (rdFail (b, a, c) y).2.1 = a := by
  unfold rdFail; split <;> exact ⟨rfl, rfl⟩
theorem flag_in {b : List UInt8} {a c : Int} (ha : 0 ≤ a ∧ a ≤ b.length) : (rdFlag (b, a, c)).2.1 = b ∧ 0 ≤ (rdFlag (b, a, c)).2.2.1 ∧ (rdFlag (b, a, c)).2.2.1 ≤ b.length := by
  unfold rdFlag
  split
  · exact ⟨rfl, ha.1, ha.2⟩
  · split
    · exact ⟨rfl, ha.1, ha.2⟩
    · rename_i h; exact ⟨rfl, by simp only; omega, by simp only at h ⊢; omega⟩
theorem item_in {k : Int} {b : List UInt8} {a c : Int} (hb : b.length ≤ 16777216) (ha : 0 ≤ a ∧ a ≤ b.length) : (rdItem k (b, a, c)).2.1 = b ∧ 0 ≤ (rdItem k (b, a, c)).2.2.1 ∧ (rdItem k (b, a, c)).2.2.1 ≤ b.length := by
  by_cases hc : c = 0
  · subst hc
    obtain ⟨i1, i2, i3, _⟩ := int_in (c := 0) hb ha
    have key : (rdItem0 k (b, a, 0)).2.1 = b ∧ 0 ≤ (rdItem0 k (b, a, 0)).2.2.1 ∧ (rdItem0 k (b, a, 0)).2.2.1 ≤ b.length := by
      unfold rdItem0
      split
      · exact flag_in ha
      · split
        · unfold rdText
          obtain ⟨I, hI⟩ : ∃ I, rdInt (b, a, 0) = I := ⟨_, rfl⟩
          rw [hI] at i1 i2 i3 ⊢
          obtain ⟨m, b1, a1, c1⟩ := I
          simp only at i1 i2 i3
          subst i1
          by_cases hn : inB m 0 100 = true
          · have hm : 0 ≤ m ∧ m ≤ 100 := by simpa [inB] using hn
            simp only [hn, if_true]
            by_cases hc1 : c1 = 0
            · subst hc1
              by_cases hl : (b1.length : Int) - a1 < m
              · simp [hl, rdFail]; omega
              · simp [hl]; omega
            · simp [hc1]; omega
          · simp only [hn, if_false, Bool.false_eq_true]
            by_cases hc1 : c1 = 0
            · subst hc1; simp [rdFail]; omega
            · simp [rdFail, hc1]; omega
        · exact ⟨i1, i2, i3⟩
    unfold rdItem
    split
    · obtain ⟨I, hI⟩ : ∃ I, rdItem0 k (b, a, 0) = I := ⟨_, rfl⟩
      rw [hI] at key ⊢
      obtain ⟨x, b1, a1, c1⟩ := I
      simp only at key
      obtain ⟨q1, q2⟩ := fail_in (b := b1) (a := a1) (c := c1) (y := 3)
      simp only
      rw [q1, q2]; exact key
    · exact key
  · rw [item_failed (by simpa using hc)]
    exact ⟨rfl, ha.1, ha.2⟩
theorem readI {id : Int} {s : T32.D} {b : List UInt8} (h1 : schemaB s = true) (h2 : inB id 0 1000000000 = true) (h3 : hasP b (putL id) = true) (hl : (putL id).length ≤ b.length) {W : List ValX × RdX} (hW : W = rowI s.2 (b, ((putL id).length : Int), 0)) :
    readV id s b = (if W.2.2.2 ≠ 0 then ([], W.2.2.2) else if W.2.2.1 < b.length then ([], 4) else (W.1, 0)) := by
  obtain ⟨r1, r2, r3⟩ := row_same (b := b) s.2 (a := ((putL id).length : Int)) (by omega)
  unfold readV
  rw [if_pos ⟨h1, h2⟩, if_pos h3]
  simp only
  rw [← hW] at r1 r2 r3
  by_cases hc : (rowR b s.2 ((putL id).length : Int)).2.2 = 0
  · obtain ⟨q1, q2, q3, q4⟩ := r3 hc
    have hW0 : W.2.2.2 = 0 := by rw [r2]; exact hc
    simp only [hc, hW0, ne_eq, not_true_eq_false, if_false, q1, q2]
  · rw [if_pos hc, if_pos (by rw [r2]; exact hc), r2]
theorem s3_eq {b : List UInt8} {a c n : Int} : (if inB n 0 30 = true then ((b, a, c) : RdX) else rdFail (b, a, c) 3) = (b, a, if inB n 0 30 = true then c else if c = 0 then 3 else c) := by
  unfold rdFail; repeat' split
  all_goals simp_all
theorem s3_ne {c n : Int} (h : inB n 0 30 = false) : (if inB n 0 30 = true then c else if c = 0 then 3 else c) ≠ 0 := by
  rw [h]; simp; split <;> simp_all
theorem f21_ok : FSpecOk Try.prog 21 wRead := by
  intro x n hp
  obtain ⟨id, ⟨nm, fs⟩, b, u⟩ := x; change Int at id; change List UInt8 at nm b; change List T73.D at fs
  have hb : b.length ≤ 16777216 := hp
  refine FnOk_intro [.one (.dp D70 70), .one .w] Try.func21 rfl ?_
  intro hw C hC
  have hr : -9223372036854775808 ≤ id ∧ id ≤ 9223372036854775807 := by simp [inR] at hw; omega
  have hpl := putL_len hr
  have hΓ := CtrsOk.addPX (id := 22) (X := [1, 4, 5]) (p := .take 0 (.take 2 (.take 3 (.take 4 (.two 1 5 (.one 5 (.one 6 (.one 7 (.one 8 (.one 9 (.done)))))) (.two 1 6 (.one 6 (.one 7 (.one 8 (.one 9 (.done))))) (.one 1 (.one 7 (.one 8 (.one 9 (.done))))))))))) (CtrsOk.addPX (id := 16) (X := [4]) (p := .take 0 (.take 1 (.take 2 (.take 3 (.take 4 (.one 5 (.one 6 (.one 7 (.done))))))))) (CtrsOk.addD (t := 70) (d := D70) (CtrOk.add f48_ok rfl (CtrOk.add f36_ok rfl (CtrOk.add f38_ok rfl (CtrOk.add f49_ok rfl (CtrOk.add f53_ok rfl (CtrsOk.addH f50_ok rfl (CtrsOk.addH f51_ok rfl (CtrsOk.addH f52_ok rfl (CtrsOk.addH f54_ok rfl (noC_ok : CtrsOk Try.prog noC))))))))))))
  refine AWp_cut hΓ mixed tau ⟨[.int .i64 id, .any, .sl .byte b, .any, .ptr 0 0] ++ List.replicate 117 .any, [.cells 32 [.str nm, .sl T73 fs]]⟩ True [0] (by simp [hC]) ?_ fun _ => ?_
  · simp [Try.f21]
  refine AWp_cut hΓ mixed tau ⟨[.int .i64 id, .any, .sl .byte b, .any, .ptr 0 0] ++ List.replicate 117 .any, [.cells 32 [.str nm, .sl T73 fs]]⟩ (schemaB (nm, fs) = true ∧ inB id 0 1000000000 = true) [0] (by simp [hC]) ?_ fun hok => ?_
  · simp [wS, wOff]
    repeat' (first | with_reducible refine And.intro ?_ ?_ | with_reducible intro _ | (show ¬ _; intro _))
    all_goals first
      | omega
      | assumption
      | (show Region.lexB .any _ = true; kernel_rfl)
      | (have e : readV id (nm, fs) b = ([], 3) := by
           unfold readV; rw [if_neg (by
             rintro ⟨h1, h2⟩
             rcases (by assumption : schemaB (nm, fs) = false ∨ inB id 0 1000000000 = false) with h | h
             · rw [h] at h1; cases h1
             · rw [h] at h2; cases h2)]
         simp [↓retQ_ret, ↓retQ_normal, wRead, e]; done)
      | trace_state
  obtain ⟨hsc, hid⟩ := hok
  have hl20 : fs.length ≤ 20 := schema_len20 hsc
  have eI := readI (b := b) hsc hid
  have eNo : hasP b (putL id) = false → readV id (nm, fs) b = ([], 1) := fun e => by
    unfold readV; rw [if_pos ⟨hsc, hid⟩, e]; rfl
  generalize hH : putL id = h0 at *
  refine AWp_cut hΓ mixed tau ⟨[.any, .any, .sl .byte b, .any, .ptr 0 0, .any, .any, .any, .osl 1 h0.length] ++ List.replicate 113 .any, [.cells 32 [.str nm, .sl T73 fs], .arr .byte 5 h0]⟩ True [0, 1] (by simp [hC]) ?_ fun _ => ?_
  · simp [wPut, hH]
  have eH : List.take h0.length h0 = h0 := List.take_of_length_le (Nat.le_refl _)
  refine AWp_cut hΓ mixed tau ⟨[.any, .any, .sl .byte b, .any, .ptr 0 0, .any, .any, .any, .osl 1 h0.length] ++ List.replicate 113 .any, [.cells 32 [.str nm, .sl T73 fs], .arr .byte 5 h0]⟩ (hasP b h0 = true) [0, 1] (by simp [hC]) ?_ fun hpre => ?_
  · simp [maxB, eH, wHasP, hb]
    repeat' (first | with_reducible refine And.intro ?_ ?_ | with_reducible intro _ | (show ¬ _; intro _))
    all_goals first
      | omega
      | (show Region.lexB .any _ = true; kernel_rfl)
      | (have e := eNo (by assumption)
         simp [↓retQ_ret, ↓retQ_normal, wRead, e]; done)
      | trace_state
  have hlb : h0.length ≤ b.length := by
    unfold hasP at hpre
    have := congrArg List.length (of_decide_eq_true hpre)
    rw [List.length_take] at this; omega
  refine AWp_cut hΓ mixed tau ⟨[.any, .any, .sl .byte b, .any, .ptr 0 0, .any, .any, .any, .any, .ptr 1 0] ++ List.replicate 112 .any, [.cells 32 [.str nm, .sl T73 fs], .cells 92 [.sl .byte b, .int .i64 (h0.length), .int .i64 0]]⟩ True [0, 2] (by simp [hC]) ?_ fun _ => ?_
  · simp
  refine AWp_cut hΓ mixed tau ⟨[.any, .any, .sl .byte b, .any, .ptr 0 0, .any, .any, .any, .any, .ptr 1 0, .nilsl] ++ List.replicate 111 .any, [.cells 32 [.str nm, .sl T73 fs], .cells 92 [.sl .byte b, .int .i64 (h0.length), .int .i64 0]]⟩ True [0, 1] (by simp [hC]) ?_ fun _ => ?_
  · simp
  obtain ⟨W, hW⟩ : ∃ W, W = rowI fs (b, (h0.length : Int), 0) := ⟨_, rfl⟩
  have eV := eI hpre hlb hW
  refine AWp_nilD 10 D70 70 (by simp) ?_
  simp
  refine AWp_cut hΓ mixed tau ⟨[.any, .any, .sl .byte b] ++ List.replicate 6 .any ++ [.ptr 1 0, .osl 2 W.1.length] ++ List.replicate 111 .any, [.dead, .cells 92 [.sl .byte b, .int .i64 (W.2.2.1), .int .i64 W.2.2.2], .deep D70 70 W.1]⟩ True [0, 1, 2] (by simp [hC]) ?_ fun _ => ?_
  rotate_left
  · obtain ⟨W1, W2, W3, W4⟩ := W
    simp only at eV
    change Int at W3 W4
    refine ACode_ok (τ := tau) hΓ mixed _ _ _ ?_
    simp (maxSteps := 8000000) [hFail, rdFail]
    by_cases h4 : W4 = 0
    · subst h4
      by_cases h3 : W3 < b.length
      · simp [h3] at eV
        simp [h3]
        repeat' (first | with_reducible refine And.intro ?_ ?_ | with_reducible intro _ | (show ¬ _; intro _))
        all_goals first
          | omega
          | (show Region.lexB .any _ = true; kernel_rfl)
          | (simp [↓retQ_ret, ↓retQ_normal, wRead, eV]; done)
          | trace_state
      · simp [h3] at eV
        simp [h3]
        repeat' (first | with_reducible refine And.intro ?_ ?_ | with_reducible intro _ | (show ¬ _; intro _))
        all_goals first
          | omega
          | (show Region.lexB .any _ = true; kernel_rfl)
          | (simp [↓retQ_ret, ↓retQ_normal, wRead, eV]; done)
          | trace_state
    · simp [h4] at eV
      simp [h4]
      repeat' (first | with_reducible refine And.intro ?_ ?_ | with_reducible intro _ | (show ¬ _; intro _))
      all_goals first
        | omega
        | (show Region.lexB .any _ = true; kernel_rfl)
        | (simp [↓retQ_ret, ↓retQ_normal, wRead, eV]; done)
        | trace_state
  simp
  intro _
  refine AWp_loopR (fun y : Nat × List ValX × Nat × Int => ⟨[.any, .any, .sl .byte b, .any, .ptr 0 0, .any, .any, .any, .any, .ptr 1 0, .osl 2 (List.length y.2.1)] ++ List.replicate 25 .any ++ [.sl T73 fs, .int .i64 fs.length, .int .i64 ((y.1 : Nat) : Int)] ++ List.replicate 83 .any, [.cells 32 [.str nm, .sl T73 fs], .cells 92 [.sl .byte b, .int .i64 (((y.2.2.1 : Nat) : Int)), .int .i64 y.2.2.2], .deep D70 70 y.2.1]⟩) (fun y => fs.length - y.1) (fun y => y.1 ≤ fs.length ∧ y.2.1.length = y.1 ∧ y.2.2.1 ≤ b.length ∧ (y.2.1 ++ (rowI (fs.drop y.1) (b, ((y.2.2.1 : Nat) : Int), y.2.2.2)).1, (rowI (fs.drop y.1) (b, ((y.2.2.1 : Nat) : Int), y.2.2.2)).2) = W) (0, [], h0.length, 0) [0, 1, 2] ?_ ?_ ?_
  · simp [hC]
  · exact ⟨by simp, by simp, hlb, by rw [hW]; simp⟩
  rintro ⟨i, pre, A, c⟩ ⟨hi, hpl2, hA, hcomb⟩
  simp only at hi hpl2 hA hcomb
  have w1 : i < fs.length → IntKind.i64.wrap ((i : Int) + 1) = ((i + 1 : Nat) : Int) := fun _ => by rw [wrap64_id (by omega)]; omega
  refine AWp_cut hΓ mixed tau ⟨[.any, .any, .sl .byte b, .any, .ptr 0 0, .any, .any, .any, .any, .ptr 1 0, .osl 2 (List.length pre)] ++ List.replicate 25 .any ++ [.sl T73 fs, .int .i64 fs.length, .int .i64 ((i : Nat) : Int), .bool (decide ((i : Int) < (fs.length : Int)))] ++ List.replicate 82 .any, [.cells 32 [.str nm, .sl T73 fs], .cells 92 [.sl .byte b, .int .i64 (((A : Nat) : Int)), .int .i64 c], .deep D70 70 pre]⟩ True [0, 1, 2] (by simp [hC]) ?_ fun _ => ?_
  · simp
  refine AWp_cut hΓ mixed tau ⟨[.any, .any, .sl .byte b, .any, .ptr 0 0, .any, .any, .any, .any, .ptr 1 0, .osl 2 (List.length pre)] ++ List.replicate 25 .any ++ [.sl T73 fs, .int .i64 fs.length, .int .i64 ((i : Nat) : Int)] ++ List.replicate 83 .any, [.cells 32 [.str nm, .sl T73 fs], .cells 92 [.sl .byte b, .int .i64 (((A : Nat) : Int)), .int .i64 c], .deep D70 70 pre]⟩ (i < fs.length) [0, 1, 2] (by simp [hC]) ?_ fun hlt => ?_
  · simp
    try intro hge
    have ez : i = fs.length := by omega
    subst ez
    have e : W = (pre, (b, (A : Int), c)) := by rw [← hcomb, List.drop_length]; simp [rowI]
    rw [e]
    simp [leH, leO, leT, leA]
  have w1 := w1 hlt
  have hdr := drop_nth (T := T73) hlt
  rcases hf : nth T73 fs i with ⟨fn, fk, fl, fm, fwas, fx, vk, vn, vt, vl, vi⟩
  change List UInt8 at fn vt; change Int at fk vk vn; change Bool at fl fm fx vl
  rw [hf] at hdr
  rw [hdr] at hcomb
  obtain ⟨f, hfd⟩ : ∃ f : FldX, f = (fn, fk, fl, fm, fwas, fx, vk, vn, vt, vl, vi) := ⟨_, rfl⟩
  rw [← hfd] at hcomb
  have hstep : (pre ++ [(fieldI f (b, (A : Int), c)).1] ++ (rowI (fs.drop (i + 1)) (fieldI f (b, (A : Int), c)).2).1, (rowI (fs.drop (i + 1)) (fieldI f (b, (A : Int), c)).2).2) = W := by rw [← hcomb]; simp [rowI]
  have gl : f.2.2.1 = fl := by rw [hfd]
  have gm : f.2.2.2.1 = fm := by rw [hfd]
  have gk : f.2.1 = fk := by rw [hfd]
  clear hcomb hdr
  refine AWp_cutR (fun z : ZV => ⟨[.any, .any, .sl .byte b, .any, .ptr 0 0, .any, .any, .any, .any, .ptr 1 0, .osl 2 (List.length (pre ++ [z.v]))] ++ List.replicate 25 .any ++ [.sl T73 fs, .int .i64 fs.length, .int .i64 ((i : Nat) : Int)] ++ List.replicate 83 .any, [.cells 32 [.str nm, .sl T73 fs], .cells 92 [.sl .byte b, .int .i64 (((z.a : Nat) : Int)), .int .i64 z.c], .deep D70 70 (pre ++ [z.v])]⟩) (fun z => fieldI f (b, (A : Int), c) = (z.v, (b, (z.a : Int), z.c)) ∧ z.a ≤ b.length) ?_ fun z hz => ?_
  rotate_left
  · obtain ⟨v, A', c'⟩ := z
    simp only at hz
    obtain ⟨hz, hzA⟩ := hz
    refine ACode_ok (τ := tau) hΓ mixed _ _ _ ?_
    simp [w1]
    rw [hz] at hstep
    exact ⟨i + 1, pre ++ [v], A', c', ⟨by omega, by simp [hpl2], hzA, hstep⟩, by omega, [0, 1, 2], by simp [hC], by decide, by simp [leH, leO, leT, leA]⟩
  clear hstep
  refine AWp_block ?_
  refine AWp_cut hΓ mixed tau ⟨[.any, .any, .sl .byte b, .any, .ptr 0 0, .any, .any, .any, .any, .ptr 1 0, .osl 2 pre.length, .any, .ptr 3 0] ++ List.replicate 23 .any ++ [.sl T73 fs, .int .i64 fs.length, .int .i64 ((i : Nat) : Int)] ++ List.replicate 83 .any, [.cells 32 [.str nm, .sl T73 fs], .cells 92 [.sl .byte b, .int .i64 ((A : Int)), .int .i64 c], .deep D70 70 pre, .cells 73 [.str fn, .int .i64 fk, .bool fl, .bool fm, .sl .str fwas, .bool fx, .int .i64 vk, .int .i64 vn, .str vt, .bool vl, .sl T76 vi]]⟩ True [0, 1, 2, 3] (by simp [hC]) ?_ fun _ => ?_
  · simp [hf, hlt]
  refine AWp_cutE hΓ mixed tau (fun z : ZA => ⟨[.any, .any, .sl .byte b, .any, .ptr 0 0, .any, .any, .any, .any, .ptr 1 0, .osl 2 pre.length, .any, .ptr 3 0] ++ List.replicate 23 .any ++ [.sl T73 fs, .int .i64 fs.length, .int .i64 ((i : Nat) : Int)] ++ List.replicate 83 .any, [.cells 32 [.str nm, .sl T73 fs], .cells 92 [.sl .byte b, .int .i64 (((z.a : Nat) : Int)), .int .i64 z.c], .deep D70 70 pre, .cells 73 [.str fn, .int .i64 fk, .bool fl, .bool fm, .sl .str fwas, .bool fx, .int .i64 vk, .int .i64 vn, .str vt, .bool vl, .sl T76 vi]]⟩) (fun z => fieldI f (b, (A : Int), c) = bodyI f (b, (z.a : Int), z.c) ∧ z.a ≤ b.length) ?_ fun z hz => ?_
  · obtain ⟨q1, q2, q3⟩ := flag_in (b := b) (a := A) (c := c) (by omega)
    have eF : fm = true → fieldI f (b, (A : Int), c) = (if (rdFlag (b, (A : Int), c)).1 = 0 then ((0, 0, [], false, []), (rdFlag (b, (A : Int), c)).2) else bodyI f (rdFlag (b, (A : Int), c)).2) := fun h => by unfold fieldI; rw [gm, if_pos h]
    have eN : fm = false → fieldI f (b, (A : Int), c) = bodyI f (b, (A : Int), c) := fun h => by unfold fieldI; rw [gm, h]; rfl
    obtain ⟨G, hG⟩ : ∃ G, rdFlag (b, (A : Int), c) = G := ⟨_, rfl⟩
    rw [hG] at q1 q2 q3 eF
    obtain ⟨g, b1, a1, c1⟩ := G
    simp only at q1 q2 q3 eF
    have q1 := q1.symm
    subst q1
    obtain ⟨A1, rfl⟩ : ∃ A1 : Nat, a1 = A1 := ⟨a1.toNat, by omega⟩
    cases fm with
    | true =>
      have eF := eF rfl
      simp (maxSteps := 8000000) [hFlag, hG, hb, hA, maxB]
      repeat' (first | with_reducible refine And.intro ?_ ?_ | with_reducible intro _ | (show ¬ _; intro _))
      all_goals first
        | omega
        | (show Region.lexB .any _ = true; kernel_rfl)
        | (show (_ : Bool) = true; kernel_rfl)
        | (rw [if_pos (by assumption)] at eF
           exact ⟨⟨(0, 0, [], false, []), A1, c1⟩, ⟨eF, by simp only; omega⟩, [0, 1, 5], by simp [hC], by simp [leH, leO, leT, leA]⟩)
        | (rw [if_neg (by assumption)] at eF
           exact ⟨A1, c1, [0, 1, 2, 3], ⟨eF, by omega⟩, by simp [hC], by simp [leH, leO, leT, leA]⟩)
        | (rw [if_neg (by assumption)] at eF
           exact ⟨⟨A1, c1⟩, ⟨eF, by simp only; omega⟩, [0, 1, 2, 3], by simp [hC], by simp [leH, leO, leT, leA]⟩)
        | trace_state
    | false =>
      have eN := eN rfl
      simp (maxSteps := 8000000) [hFlag, hG, hb, hA, maxB]
      repeat' (first | with_reducible refine And.intro ?_ ?_ | with_reducible intro _ | (show ¬ _; intro _))
      all_goals first
        | omega
        | (show Region.lexB .any _ = true; kernel_rfl)
        | (show (_ : Bool) = true; kernel_rfl)
        | exact ⟨A, c, [0, 1, 2, 3], ⟨eN, by omega⟩, by simp [hC], by simp [leH, leO, leT, leA]⟩
        | exact ⟨⟨A, c⟩, ⟨eN, by simp only; omega⟩, [0, 1, 2, 3], by simp [hC], by simp [leH, leO, leT, leA]⟩
        | trace_state
  obtain ⟨A1, c1⟩ := z
  simp only at hz
  obtain ⟨eB0, hA1⟩ := hz
  rw [eB0]
  clear eB0
  refine AWp_cut hΓ mixed tau ⟨[.any, .any, .sl .byte b, .any, .ptr 0 0, .any, .any, .any, .any, .ptr 1 0, .osl 2 pre.length, .any, .ptr 3 0, .ptr 4 0] ++ List.replicate 22 .any ++ [.sl T73 fs, .int .i64 fs.length, .int .i64 ((i : Nat) : Int)] ++ List.replicate 83 .any, [.cells 32 [.str nm, .sl T73 fs], .cells 92 [.sl .byte b, .int .i64 (((A1 : Nat) : Int)), .int .i64 c1], .deep D70 70 pre, .cells 73 [.str fn, .int .i64 fk, .bool fl, .bool fm, .sl .str fwas, .bool fx, .int .i64 vk, .int .i64 vn, .str vt, .bool vl, .sl T76 vi], .cells 70 [.int .i64 fk, .int .i64 0, .str [], .bool fl, .nilsl]]⟩ True [0, 1, 2, 3, 4] (by simp [hC]) ?_ fun _ => ?_
  · simp [maxB]
  cases fl with
  | false =>
    have eB : bodyI f (b, (A1 : Int), c1) = ((f.2.1, (rdItem f.2.1 (b, (A1 : Int), c1)).1.1, (rdItem f.2.1 (b, (A1 : Int), c1)).1.2, false, []), (rdItem f.2.1 (b, (A1 : Int), c1)).2) := by unfold bodyI; rw [gl]; rfl
    rw [gk] at eB
    obtain ⟨q1, q2, q3⟩ := item_in (k := fk) (b := b) (a := A1) (c := c1) hb (by omega)
    obtain ⟨I, hI⟩ : ∃ I, rdItem fk (b, (A1 : Int), c1) = I := ⟨_, rfl⟩
    rw [hI] at eB q1 q2 q3
    obtain ⟨⟨xn, xt⟩, b2, a2, c2⟩ := I
    simp only at eB q1 q2 q3
    have q1 := q1.symm
    subst q1
    obtain ⟨A2, rfl⟩ : ∃ A2 : Nat, a2 = A2 := ⟨a2.toNat, by omega⟩
    refine AWp_cut hΓ mixed tau ⟨[.any, .any, .sl .byte b, .any, .ptr 0 0, .any, .any, .any, .any, .ptr 1 0, .osl 2 pre.length, .any, .ptr 3 0, .ptr 4 0] ++ List.replicate 22 .any ++ [.sl T73 fs, .int .i64 fs.length, .int .i64 ((i : Nat) : Int)] ++ List.replicate 83 .any, [.cells 32 [.str nm, .sl T73 fs], .cells 92 [.sl .byte b, .int .i64 (((A2 : Nat) : Int)), .int .i64 c2], .deep D70 70 pre, .cells 73 [.str fn, .int .i64 fk, .bool false, .bool fm, .sl .str fwas, .bool fx, .int .i64 vk, .int .i64 vn, .str vt, .bool vl, .sl T76 vi], .cells 70 [.int .i64 fk, .int .i64 xn, .str xt, .bool false, .nilsl]]⟩ True [0, 1, 2, 3, 4] (by simp [hC]) ?_ fun _ => ?_
    · simp (maxSteps := 8000000) [hItm, hI, hb, hA1, maxB]
      repeat' (first | with_reducible refine And.intro ?_ ?_ | with_reducible intro _ | (show ¬ _; intro _))
      all_goals first
        | omega
        | (show Region.lexB .any _ = true; kernel_rfl)
        | (show (_ : Bool) = true; kernel_rfl)
        | trace_state
    refine ACode_ok (τ := tau) hΓ mixed _ _ _ ?_
    simp
    repeat' (first | with_reducible refine And.intro ?_ ?_ | with_reducible intro _ | (show ¬ _; intro _))
    all_goals first
      | omega
      | (show Region.lexB .any _ = true; kernel_rfl)
      | (show (_ : Bool) = true; kernel_rfl)
      | exact ⟨(fk, xn, xt, false, []), A2, c2, [0, 1, 2], ⟨eB, by omega⟩, by simp [hC], by simp [leH, leO, leT, leA]⟩
      | exact ⟨⟨(fk, xn, xt, false, []), A2, c2⟩, ⟨eB, by simp only; omega⟩, [0, 1, 6], by simp [hC], by simp [leH, leO, leT, leA]⟩
      | trace_state
  | true =>
    obtain ⟨q1, q2, q3, q4, q5⟩ := int_in (b := b) (a := A1) (c := c1) hb (by omega)
    have eB : bodyI f (b, (A1 : Int), c1) = ((f.2.1, 0, [], true, (loopI f.2.1 (rdInt (b, (A1 : Int), c1)).1.toNat (if inB (rdInt (b, (A1 : Int), c1)).1 0 30 = true then (rdInt (b, (A1 : Int), c1)).2 else rdFail (rdInt (b, (A1 : Int), c1)).2 3)).1), (loopI f.2.1 (rdInt (b, (A1 : Int), c1)).1.toNat (if inB (rdInt (b, (A1 : Int), c1)).1 0 30 = true then (rdInt (b, (A1 : Int), c1)).2 else rdFail (rdInt (b, (A1 : Int), c1)).2 3)).2) := by unfold bodyI; rw [gl]; rfl
    rw [gk] at eB
    obtain ⟨I, hI⟩ : ∃ I, rdInt (b, (A1 : Int), c1) = I := ⟨_, rfl⟩
    rw [hI] at eB q1 q2 q3 q4 q5
    obtain ⟨m, b2, a2, c2⟩ := I
    simp only at eB q1 q2 q3 q4 q5
    have q1 := q1.symm
    subst q1
    obtain ⟨A2, rfl⟩ : ∃ A2 : Nat, a2 = A2 := ⟨a2.toNat, by omega⟩
    obtain ⟨s3, hs3⟩ : ∃ s3 : Int, s3 = if inB m 0 30 = true then c2 else if c2 = 0 then 3 else c2 := ⟨_, rfl⟩
    have e3 := s3_eq (b := b) (a := A2) (c := c2) (n := m)
    have hs3n := fun h => s3_ne (c := c2) (n := m) h
    rw [← hs3] at e3 hs3n
    rw [e3] at eB
    obtain ⟨K, hK⟩ : ∃ K, K = loopI fk m.toNat (b, (A2 : Int), s3) := ⟨_, rfl⟩
    rw [← hK] at eB
    refine AWp_cutV ⟨[.any, .any, .sl .byte b, .any, .ptr 0 0, .any, .any, .any, .any, .ptr 1 0, .osl 2 pre.length, .any, .ptr 3 0, .ptr 4 0] ++ List.replicate 22 .any ++ [.sl T73 fs, .int .i64 fs.length, .int .i64 ((i : Nat) : Int)] ++ List.replicate 83 .any, [.cells 32 [.str nm, .sl T73 fs], .cells 92 [.sl .byte b, .int .i64 (K.2.2.1), .int .i64 K.2.2.2], .deep D70 70 pre, .cells 73 [.str fn, .int .i64 fk, .bool true, .bool fm, .sl .str fwas, .bool fx, .int .i64 vk, .int .i64 vn, .str vt, .bool vl, .sl T76 vi], .cells 70 [.int .i64 fk, .int .i64 0, .str [], .bool true, .osl 5 (List.length K.1)], .arr T76 76 K.1]⟩ (K.1.length ≤ 30 ∧ K.2.1 = b ∧ 0 ≤ K.2.2.1 ∧ K.2.2.1 ≤ b.length) [0, 1, 2, 3, 4, 5] (by simp [hC]) ?_ fun hK0 => ?_
    rotate_left
    · obtain ⟨y1, y2, y3, y4⟩ := hK0
      obtain ⟨K1, K2, K3, K4⟩ := K
      simp only at y1 y2 y3 y4
      subst y2
      change List T76.D at K1; change Int at K3 K4
      obtain ⟨A3, rfl⟩ : ∃ A3 : Nat, K3 = A3 := ⟨K3.toNat, by omega⟩
      refine ACode_ok (τ := tau) hΓ mixed _ _ _ ?_
      simp
      repeat' (first | with_reducible refine And.intro ?_ ?_ | with_reducible intro _ | (show ¬ _; intro _))
      all_goals first
        | omega
        | (show Region.lexB .any _ = true; kernel_rfl)
        | (show (_ : Bool) = true; kernel_rfl)
        | exact ⟨⟨(fk, 0, [], true, K1), A3, K4⟩, ⟨eB, by simp only; omega⟩, [0, 1, 7], by simp [hC], by simp [leH, leO, leT, leA]⟩
        | trace_state
    clear eB
    refine AWp_cut hΓ mixed tau ⟨[.any, .any, .sl .byte b, .any, .ptr 0 0, .any, .any, .any, .any, .ptr 1 0, .osl 2 pre.length, .any, .ptr 3 0, .ptr 4 0] ++ List.replicate 22 .any ++ [.sl T73 fs, .int .i64 fs.length, .int .i64 ((i : Nat) : Int)] ++ List.replicate 21 .any ++ [.bool false] ++ List.replicate 61 .any, [.cells 32 [.str nm, .sl T73 fs], .cells 92 [.sl .byte b, .int .i64 (((A1 : Nat) : Int)), .int .i64 c1], .deep D70 70 pre, .cells 73 [.str fn, .int .i64 fk, .bool true, .bool fm, .sl .str fwas, .bool fx, .int .i64 vk, .int .i64 vn, .str vt, .bool vl, .sl T76 vi], .cells 70 [.int .i64 fk, .int .i64 0, .str [], .bool true, .nilsl]]⟩ True [0, 1, 2, 3, 4] (by simp [hC]) ?_ fun _ => ?_
    · simp
    refine AWp_cond (b := false) (by simp [aev]) (fun h => by cases h) (fun _ => ?_)
    refine AWp_cut hΓ mixed tau ⟨[.any, .any, .sl .byte b, .any, .ptr 0 0, .any, .any, .any, .any, .ptr 1 0, .osl 2 pre.length, .any, .ptr 3 0, .ptr 4 0, .any, .int .i64 m] ++ List.replicate 20 .any ++ [.sl T73 fs, .int .i64 fs.length, .int .i64 ((i : Nat) : Int)] ++ List.replicate 83 .any, [.cells 32 [.str nm, .sl T73 fs], .cells 92 [.sl .byte b, .int .i64 (((A2 : Nat) : Int)), .int .i64 c2], .deep D70 70 pre, .cells 73 [.str fn, .int .i64 fk, .bool true, .bool fm, .sl .str fwas, .bool fx, .int .i64 vk, .int .i64 vn, .str vt, .bool vl, .sl T76 vi], .cells 70 [.int .i64 fk, .int .i64 0, .str [], .bool true, .nilsl]]⟩ True [0, 1, 2, 3, 4] (by simp [hC]) ?_ fun _ => ?_
    · simp [hInt, hI, hb, hA1, maxB]
    refine AWp_cut hΓ mixed tau ⟨[.any, .any, .sl .byte b, .any, .ptr 0 0, .any, .any, .any, .any, .ptr 1 0, .osl 2 pre.length, .any, .ptr 3 0, .ptr 4 0, .any, .int .i64 m] ++ List.replicate 20 .any ++ [.sl T73 fs, .int .i64 fs.length, .int .i64 ((i : Nat) : Int)] ++ List.replicate 83 .any, [.cells 32 [.str nm, .sl T73 fs], .cells 92 [.sl .byte b, .int .i64 (((A2 : Nat) : Int)), .int .i64 s3], .deep D70 70 pre, .cells 73 [.str fn, .int .i64 fk, .bool true, .bool fm, .sl .str fwas, .bool fx, .int .i64 vk, .int .i64 vn, .str vt, .bool vl, .sl T76 vi], .cells 70 [.int .i64 fk, .int .i64 0, .str [], .bool true, .nilsl]]⟩ True [0, 1, 2, 3, 4] (by simp [hC]) ?_ fun _ => ?_
    · cases hB : inB m 0 30 with
      | true =>
        rw [hB] at hs3; simp at hs3
        simp [wB, hB, hFail, maxB, hs3]
      | false =>
        rw [hB] at hs3; simp at hs3
        simp [wB, hB, hFail, maxB, rdFail]
        try (by_cases hc2 : c2 = 0
             · simp [hc2] at hs3 ⊢; try simp [hs3, leH, leO, leT, leA]
             · simp [hc2] at hs3 ⊢; try simp [hs3, leH, leO, leT, leA])
    refine AWp_nilc 4 4 70 _ T76 76 rfl rfl ?_
    simp
    refine ACode_ok (τ := tau) hΓ mixed _ _ _ ?_
    simp
    refine AWp_loop_ind hΓ mixed tau (fun y : Nat × List T76.D × Nat × Int => ⟨[.any, .any, .sl .byte b, .any, .ptr 0 0, .any, .any, .any, .any, .ptr 1 0, .osl 2 pre.length, .any, .ptr 3 0, .ptr 4 0, .any, .int .i64 (m - (y.1 : Int))] ++ List.replicate 20 .any ++ [.sl T73 fs, .int .i64 fs.length, .int .i64 ((i : Nat) : Int)] ++ List.replicate 83 .any, [.cells 32 [.str nm, .sl T73 fs], .cells 92 [.sl .byte b, .int .i64 (((y.2.2.1 : Nat) : Int)), .int .i64 y.2.2.2], .deep D70 70 pre, .cells 73 [.str fn, .int .i64 fk, .bool true, .bool fm, .sl .str fwas, .bool fx, .int .i64 vk, .int .i64 vn, .str vt, .bool vl, .sl T76 vi], .cells 70 [.int .i64 fk, .int .i64 0, .str [], .bool true, .osl 5 (List.length y.2.1)], .arr T76 76 y.2.1]⟩) (fun y => m.toNat - y.1) (fun y => y.1 ≤ m.toNat ∧ y.2.1.length = y.1 ∧ y.2.2.1 ≤ b.length ∧ (inB m 0 30 = false → y.2.2.2 ≠ 0 ∧ y.1 = 0) ∧ (y.2.1 ++ (loopI fk (m.toNat - y.1) (b, ((y.2.2.1 : Nat) : Int), y.2.2.2)).1, (loopI fk (m.toNat - y.1) (b, ((y.2.2.1 : Nat) : Int), y.2.2.2)).2) = K) (0, [], A2, s3) [0, 1, 2, 3, 4, 5] ?_ ?_ ?_
    · simp [hC]
    · exact ⟨by simp, by simp, by simp only; omega, fun h => ⟨hs3n h, rfl⟩, by rw [hK]; simp⟩
    rintro ⟨k, its, A3, c3⟩ ⟨hk, hkl, hA3, hk0, hco⟩
    change List T76.D at its
    simp only at hk hkl hA3 hk0 hco
    have h30 : k ≤ 30 := by
      cases hB : inB m 0 30 with
      | true => have : 0 ≤ m ∧ m ≤ 30 := by simpa [inB] using hB
                omega
      | false => have := (hk0 hB).2; omega
    have hgo : (k : Int) < m → c3 = 0 → m ≤ 30 := fun h1 h2 => by
      cases hB : inB m 0 30 with
      | true => have : 0 ≤ m ∧ m ≤ 30 := by simpa [inB] using hB
                omega
      | false => exact absurd h2 (hk0 hB).1
    have w2 : (k : Int) < m → IntKind.i64.wrap (m - (k : Int) - 1) = m - ((k + 1 : Nat) : Int) := fun h => by rw [wrap64_id (by omega)]; omega
    have hMk : (k : Int) < m → m.toNat - k = (m.toNat - (k + 1)) + 1 := fun h => by omega
    have hstop : ((k : Int) < m → c3 ≠ 0) → K = (its, (b, (A3 : Int), c3)) := fun h => by
      rw [← hco]
      by_cases hkm : (k : Int) < m
      · rw [hMk hkm]; unfold loopI; rw [if_pos (h hkm)]; simp
      · rw [show m.toNat - k = 0 by omega]; simp [loopI]
    have hnext : (k : Int) < m → c3 = 0 → (its ++ [(rdItem fk (b, (A3 : Int), c3)).1] ++ (loopI fk (m.toNat - (k + 1)) (rdItem fk (b, (A3 : Int), c3)).2).1, (loopI fk (m.toNat - (k + 1)) (rdItem fk (b, (A3 : Int), c3)).2).2) = K := fun h h2 => by
      rw [← hco, hMk h]
      conv => rhs; unfold loopI
      rw [if_neg (by simpa using h2)]; simp
    obtain ⟨p1, p2, p3⟩ := item_in (k := fk) (b := b) (a := A3) (c := c3) hb (by omega)
    obtain ⟨J, hJ⟩ : ∃ J, rdItem fk (b, (A3 : Int), c3) = J := ⟨_, rfl⟩
    rw [hJ] at p1 p2 p3 hnext
    obtain ⟨⟨xn, xt⟩, b4, a4, c4⟩ := J
    simp only at p1 p2 p3 hnext
    have p1 := p1.symm
    subst p1
    obtain ⟨A4, rfl⟩ : ∃ A4 : Nat, a4 = A4 := ⟨a4.toNat, by omega⟩
    have hxx : (0 : Int) < m - k ↔ (k : Int) < m := by omega
    simp (maxSteps := 8000000) [hItm, hJ, hb, hA3, maxB, hxx]
    repeat' (first | with_reducible refine And.intro ?_ ?_ | with_reducible intro _ | (show ¬ _; intro _))
    all_goals first
      | omega
      | (show Region.lexB .any _ = true; kernel_rfl)
      | (show (_ : Bool) = true; kernel_rfl)
      | (have hkm : (k : Int) < m := by first | assumption | omega
         have hc3 : c3 = 0 := by assumption
         have e1 := hnext hkm hc3
         have hm3 := hgo hkm hc3
         refine ⟨k + 1, its ++ [(xn, xt)], A4, c4, ⟨by omega, by simp [hkl], by omega, fun h => absurd hc3 (hk0 h).1, e1⟩, by omega, [0, 1, 2, 3, 4, 7], by simp [hC], by simp [leH, leO, leT, leA, w2 hkm]⟩)
      | (have e := hstop (by first | (intro hh; omega) | (intro _; assumption))
         first | (rw [e]; done) | (rw [e]; simp only; omega) | (rw [e]; refine ⟨⟨by simp only; omega, rfl, by simp only; omega, by simp only; omega⟩, ?_⟩; simp [leH, leO, leT, leA]))
      | trace_state
end Go.Proofs.Ythojapklndjidaa
