/- Rows read from bytes: the walk of the reference's ReadRow. -/
import Derived.Test.YthojapklndjidaaRv
namespace Go.Proofs.Ythojapklndjidaa
open Go Go.RowKit
set_option linter.all false
set_option pp.deepTerms true
set_option pp.maxSteps 200000
set_option maxRecDepth 100000
set_option maxHeartbeats 16000000
theorem f19_ok : FSpecOk Try.prog 19 wRead := by
  intro x n hp
  obtain ⟨id, ⟨nm, fs⟩, b, u⟩ := x; change Int at id; change List UInt8 at nm b; change List T73.D at fs
  have hb : b.length ≤ 16777216 := hp
  refine FnOk_intro [.one (.dp D70 70), .one .w] Try.func19 rfl ?_
  intro hw C hC
  have hr : -9223372036854775808 ≤ id ∧ id ≤ 9223372036854775807 := by simp [inR] at hw; omega
  have hpl := putL_len hr
  have hΓ := CtrsOk.addD (t := 70) (d := D70) (CtrOk.add f45_ok rfl (CtrOk.add f30_ok rfl (CtrOk.add f32_ok rfl (CtrOk.add f46_ok rfl (CtrsOk.addH f47_ok rfl (noC_ok : CtrsOk Try.prog noC))))))
  refine AWp_cut hΓ mixed tau ⟨[.int .i64 id, .any, .sl .byte b, .any, .ptr 0 0] ++ List.replicate 153 .any, [.cells 32 [.str nm, .sl T73 fs]]⟩ True [0] (by simp [hC]) ?_ fun _ => ?_
  · simp [Try.f19]
  refine AWp_cut hΓ mixed tau ⟨[.int .i64 id, .any, .sl .byte b, .any, .ptr 0 0, .any, .any, .any, .osl 1 0] ++ List.replicate 149 .any, [.cells 32 [.str nm, .sl T73 fs], .deep D70 70 []]⟩ True [0, 1] (by simp [hC]) ?_ fun _ => ?_
  · simp
  refine AWp_cut hΓ mixed tau ⟨[.int .i64 id, .any, .sl .byte b, .any, .ptr 0 0, .any, .any, .any, .osl 1 0] ++ List.replicate 149 .any, [.cells 32 [.str nm, .sl T73 fs], .deep D70 70 []]⟩ (schemaB (nm, fs) = true ∧ inB id 0 1000000000 = true) [0, 1] (by simp [hC]) ?_ fun hok => ?_
  · simp [wS, wB]
    repeat' (first | with_reducible refine And.intro ?_ ?_ | with_reducible intro _ | (show ¬ _; intro _))
    all_goals first
      | omega
      | assumption
      | (show Region.lexB .any _ = true; kernel_rfl)
      | (have e : readV id (nm, fs) b = ([], 3) := by
           unfold readV; rw [if_neg (by
             rintro ⟨h1, h2⟩
             rcases (by assumption : schemaB (nm, fs) = false ∨ inB id 0 1000000000 = false) with h | h
             · rw [h] at h1; cases h1
             · rw [h] at h2; cases h2)]
         simp [↓retQ_ret, ↓retQ_normal, wRead, e]; done)
      | trace_state
  obtain ⟨hsc, hid⟩ := hok
  have hl20 : fs.length ≤ 20 := schema_len20 hsc
  have hkind := fun i (hi : i < fs.length) => schema_kind (s := (nm, fs)) hsc hi
  generalize hH : putL id = h0 at *
  refine AWp_cut hΓ mixed tau ⟨[.any, .any, .sl .byte b, .any, .ptr 0 0, .any, .any, .any, .osl 1 0, .osl 2 h0.length] ++ List.replicate 148 .any, [.cells 32 [.str nm, .sl T73 fs], .deep D70 70 [], .arr .byte 5 h0]⟩ True [0, 1, 2] (by simp [hC]) ?_ fun _ => ?_
  · simp [wPut, hH]
  have eH : List.take h0.length h0 = h0 := List.take_of_length_le (Nat.le_refl _)
  refine AWp_cut hΓ mixed tau ⟨[.any, .any, .sl .byte b, .any, .ptr 0 0, .any, .any, .any, .osl 1 0, .osl 2 h0.length] ++ List.replicate 148 .any, [.cells 32 [.str nm, .sl T73 fs], .deep D70 70 [], .arr .byte 5 h0]⟩ (hasP b h0 = true) [0, 1, 2] (by simp [hC]) ?_ fun hpre => ?_
  · simp [maxB, eH]
    repeat' (first | with_reducible refine And.intro ?_ ?_ | with_reducible intro _ | (show ¬ _; intro _))
    all_goals first
      | omega
      | (show Region.lexB .any _ = true; kernel_rfl)
      | (have e0 : hasP b h0 = false := by
           unfold hasP
           refine decide_eq_false fun e => ?_
           have := congrArg List.length e
           rw [List.length_take] at this
           rcases (by assumption : _ ∨ _) with h | h
           · omega
           · exact h e
         have e : readV id (nm, fs) b = ([], 1) := by
           unfold readV; rw [if_pos ⟨hsc, hid⟩, hH, e0]; rfl
         simp [↓retQ_ret, ↓retQ_normal, wRead, e]; done)
      | exact decide_eq_true (by assumption)
      | trace_state
  have hlb : h0.length ≤ b.length := by
    unfold hasP at hpre
    have := congrArg List.length (of_decide_eq_true hpre)
    rw [List.length_take] at this; omega
  refine AWp_cut hΓ mixed tau ⟨[.any, .any, .sl .byte b, .any, .ptr 0 0, .any, .any, .any, .osl 1 0, .any, .int .i64 h0.length] ++ List.replicate 147 .any, [.cells 32 [.str nm, .sl T73 fs], .deep D70 70 []]⟩ True [0, 1] (by simp [hC]) ?_ fun _ => ?_
  · simp
  refine AWp_cut hΓ mixed tau ⟨[.any, .any, .sl .byte b, .any, .ptr 0 0, .any, .any, .any, .osl 1 0, .any, .int .i64 h0.length, .osl 2 0] ++ List.replicate 146 .any, [.cells 32 [.str nm, .sl T73 fs], .deep D70 70 [], .deep D70 70 []]⟩ True [0, 1, 2] (by simp [hC]) ?_ fun _ => ?_
  · simp
  obtain ⟨R, hR⟩ : ∃ R, R = rowR b fs h0.length := ⟨_, rfl⟩
  have eV : readV id (nm, fs) b = if R.2.2 ≠ 0 then ([], R.2.2) else if R.2.1 < b.length then ([], 4) else (R.1, 0) := by
    unfold readV; rw [if_pos ⟨hsc, hid⟩, hH, if_pos hpre, hR]
  have eBad : ∀ c, c ≠ 0 → R.2.2 = c → readV id (nm, fs) b = ([], c) := fun c h1 h2 => by rw [eV, if_pos (by rw [h2]; exact h1), h2]
  refine AWp_cut hΓ mixed tau ⟨[.any, .any, .sl .byte b] ++ List.replicate 5 .any ++ [.osl 1 0, .any, .int .i64 R.2.1, .osl 2 R.1.length] ++ List.replicate 146 .any, [.dead, .deep D70 70 [], .deep D70 70 R.1]⟩ (R.2.2 = 0) [0, 1, 2] (by simp [hC]) ?_ fun hR0 => ?_
  rotate_left
  · rw [if_neg (by simpa using hR0)] at eV
    refine ACode_ok (τ := tau) hΓ mixed _ _ _ ?_
    simp
    intro _
    refine ⟨fun h => ?_, fun h => ?_⟩
    · rw [if_pos h] at eV
      simp [↓retQ_ret, ↓retQ_normal, wRead, eV]
    · rw [if_neg (by omega)] at eV
      simp [↓retQ_ret, ↓retQ_normal, wRead, eV]
  have hI0 : comb [] (rowR b (fs.drop 0) ((h0.length : Nat) : Int)) = R := by rw [hR, comb_row]; rfl
  simp
  refine AWp_loopR (fun y : Nat × List ValX × Nat => ⟨[.any, .any, .sl .byte b, .any, .ptr 0 0, .any, .any, .any, .osl 1 0, .any, .int .i64 ((y.2.2 : Nat) : Int), .osl 2 (List.length y.2.1), .int .i64 ((y.1 : Nat) : Int)] ++ List.replicate 145 .any, [.cells 32 [.str nm, .sl T73 fs], .deep D70 70 [], .deep D70 70 y.2.1]⟩) (fun y => fs.length - y.1) (fun y => y.1 ≤ fs.length ∧ y.2.1.length = y.1 ∧ y.2.2 ≤ b.length ∧ comb y.2.1 (rowR b (fs.drop y.1) ((y.2.2 : Nat) : Int)) = R) (0, [], h0.length) [0, 1, 2] ?_ ?_ ?_
  · simp [hC]
  · exact ⟨by simp, by simp, hlb, hI0⟩
  rintro ⟨i, pre, A⟩ ⟨hi, hpl2, hA, hcomb⟩
  simp only at hi hpl2 hA hcomb
  refine AWp_cut hΓ mixed tau ⟨[.any, .any, .sl .byte b, .any, .ptr 0 0, .any, .any, .any, .osl 1 0, .any, .int .i64 ((A : Nat) : Int), .osl 2 (List.length pre), .int .i64 ((i : Nat) : Int)] ++ List.replicate 145 .any, [.cells 32 [.str nm, .sl T73 fs], .deep D70 70 [], .deep D70 70 pre]⟩ (i < fs.length) [0, 1, 2] (by simp [hC]) ?_ fun hlt => ?_
  · simp
    intro _ hge
    have ez : i = fs.length := by omega
    subst ez
    have e : R = (pre, (A : Int), 0) := by rw [← hcomb, List.drop_length]; simp [comb, rowR]
    rw [e]
    refine ⟨rfl, ?_⟩
    simp [leH, leO, leT, leA]
  have w1 : IntKind.i64.wrap ((i : Int) + 1) = ((i + 1 : Nat) : Int) := by rw [wrap64_id (by omega)]; omega
  have wA : IntKind.i64.wrap ((A : Int) + 1) = ((A + 1 : Nat) : Int) := by rw [wrap64_id (by omega)]; omega
  have wA2 : IntKind.i64.wrap (((A + 1 : Nat) : Int) - 1) = (A : Int) := by rw [wrap64_id (by omega)]; omega
  have hdr := drop_nth (T := T73) hlt
  have hki := hkind i hlt
  rcases hf : nth T73 fs i with ⟨fn, fk, fl, fm, fwas, fx, vk, vn, vt, vl, vi⟩
  change List UInt8 at fn vt; change Int at fk vk vn; change Bool at fl fm fx vl
  rw [hf] at hdr
  rw [show nth T73 (nm, fs).2 i = nth T73 fs i from rfl, hf] at hki
  have hki : inB fk 1 4 = true := hki
  rw [hdr] at hcomb
  obtain ⟨f, hfd⟩ : ∃ f : FldX, f = (fn, fk, fl, fm, fwas, fx, vk, vn, vt, vl, vi) := ⟨_, rfl⟩
  rw [← hfd] at hcomb
  have hbad : (fieldR f b A).2.2 ≠ 0 → readV id (nm, fs) b = ([], (fieldR f b A).2.2) := fun h => eBad _ h (by rw [← hcomb, comb_row_bad h])
  have hstep : (fieldR f b A).2.2 = 0 → comb (pre ++ [(fieldR f b A).1]) (rowR b (fs.drop (i + 1)) (fieldR f b A).2.1) = R := fun h => by rw [← comb_row_step h]; exact hcomb
  have gl : f.2.2.1 = fl := by rw [hfd]
  have gm : f.2.2.2.1 = fm := by rw [hfd]
  have gk : f.2.1 = fk := by rw [hfd]
  clear hcomb hdr
  refine AWp_cutR (fun z : ZV => ⟨[.any, .any, .sl .byte b, .any, .ptr 0 0, .any, .any, .any, .osl 1 0, .any, .int .i64 ((z.a : Nat) : Int), .osl 2 (pre ++ [z.v]).length, .int .i64 ((i : Nat) : Int)] ++ List.replicate 145 .any, [.cells 32 [.str nm, .sl T73 fs], .deep D70 70 [], .deep D70 70 (pre ++ [z.v])]⟩) (fun z => fieldR f b A = (z.v, (z.a : Int), 0) ∧ z.a ≤ b.length) ?_ fun z hz => ?_
  rotate_left
  · obtain ⟨v, A', _⟩ := z
    simp only at hz
    obtain ⟨hz, hzA⟩ := hz
    refine ACode_ok (τ := tau) hΓ mixed _ _ _ ?_
    simp [w1]
    rw [hz] at hstep
    exact ⟨i + 1, pre ++ [v], A', ⟨by omega, by simp [hpl2], hzA, hstep rfl⟩, by omega, [0, 1, 2], by simp [hC], by simp [leH, leO, leT, leA]⟩
  refine AWp_block ?_
  refine AWp_cut hΓ mixed tau ⟨[.any, .any, .sl .byte b, .any, .ptr 0 0, .any, .any, .any, .osl 1 0, .any, .int .i64 ((A : Nat) : Int), .osl 2 pre.length, .int .i64 ((i : Nat) : Int), .ptr 3 0] ++ List.replicate 144 .any, [.cells 32 [.str nm, .sl T73 fs], .deep D70 70 [], .deep D70 70 pre, .cells 73 [.str fn, .int .i64 fk, .bool fl, .bool fm, .sl .str fwas, .bool fx, .int .i64 vk, .int .i64 vn, .str vt, .bool vl, .sl T76 vi]]⟩ True [0, 1, 2, 3] (by simp [hC]) ?_ fun _ => ?_
  · simp [hf, hlt]
  refine AWp_cut hΓ mixed tau ⟨[.any, .any, .sl .byte b, .any, .ptr 0 0, .any, .any, .any, .osl 1 0, .any, .int .i64 ((A : Nat) : Int), .osl 2 pre.length, .int .i64 ((i : Nat) : Int), .ptr 3 0, .ptr 4 0] ++ List.replicate 143 .any, [.cells 32 [.str nm, .sl T73 fs], .deep D70 70 [], .deep D70 70 pre, .cells 73 [.str fn, .int .i64 fk, .bool fl, .bool fm, .sl .str fwas, .bool fx, .int .i64 vk, .int .i64 vn, .str vt, .bool vl, .sl T76 vi], .cells 70 [.int .i64 fk, .int .i64 0, .str [], .bool fl, .nilsl]]⟩ True [0, 1, 2, 3, 4] (by simp [hC]) ?_ fun _ => ?_
  · simp [maxB]
  refine AWp_cutE hΓ mixed tau (fun A1 : Nat => ⟨[.any, .any, .sl .byte b, .any, .ptr 0 0, .any, .any, .any, .osl 1 0, .any, .int .i64 ((A1 : Nat) : Int), .osl 2 pre.length, .int .i64 ((i : Nat) : Int), .ptr 3 0, .ptr 4 0] ++ List.replicate 143 .any, [.cells 32 [.str nm, .sl T73 fs], .deep D70 70 [], .deep D70 70 pre, .cells 73 [.str fn, .int .i64 fk, .bool fl, .bool fm, .sl .str fwas, .bool fx, .int .i64 vk, .int .i64 vn, .str vt, .bool vl, .sl T76 vi], .cells 70 [.int .i64 fk, .int .i64 0, .str [], .bool fl, .nilsl]]⟩) (fun A1 => fieldR f b A = bodyR f b A1 ∧ A1 ≤ b.length) ?_ fun A1 hA1 => ?_
  · have hv : flagV b A = ((nth .byte b A).toNat : Int) := rfl
    have hx : (nth .byte b A).toNat < 256 := (nth .byte b A).toNat_lt
    have eF : fm = true → fieldR f b A = (if (b.length : Int) ≤ A then ((0, 0, [], false, []), 0, 2) else if 1 < flagV b A then ((0, 0, [], false, []), 0, 3) else if flagV b A = 0 then ((0, 0, [], false, []), (A : Int) + 1, 0) else bodyR f b ((A : Int) + 1)) := fun h => by unfold fieldR; rw [gm, if_pos h]
    have eN : fm = false → fieldR f b A = bodyR f b A := fun h => by unfold fieldR; rw [gm, h]; rfl
    rw [hv] at eF
    generalize hX : (nth .byte b A).toNat = X at *
    have wA0 : IntKind.i64.wrap (A : Int) = (A : Int) := wrap64_id (by omega)
    simp (maxSteps := 8000000) [wA, wA2, wA0, hX, maxB]
    repeat' (first | with_reducible refine And.intro ?_ ?_ | with_reducible intro _ | (show ¬ _; intro _))
    all_goals first
      | omega
      | (show Region.lexB .any _ = true; kernel_rfl)
      | (show (_ : Bool) = true; kernel_rfl)
      | (have e := eF (by assumption)
         rw [if_pos (by omega)] at e
         have e2 := hbad (by rw [e]; simp)
         rw [e] at e2
         simp [↓retQ_ret, ↓retQ_normal, wRead, e2]; done)
      | (have e := eF (by assumption)
         rw [if_neg (by omega), if_pos (by omega)] at e
         have e2 := hbad (by rw [e]; simp)
         rw [e] at e2
         simp [↓retQ_ret, ↓retQ_normal, wRead, e2]; done)
      | (have e := eF (by assumption)
         rw [if_neg (by omega), if_neg (by omega), if_pos (by omega)] at e
         exact ⟨⟨(0, 0, [], false, []), A + 1, 0⟩, ⟨by rw [e]; simp, by simp only; omega⟩, [0, 1, 6], by simp [hC], by simp [leH, leO, leT, leA]⟩)
      | (have e := eF (by assumption)
         rw [if_neg (by omega), if_neg (by omega), if_neg (by omega)] at e
         exact ⟨A + 1, ⟨by rw [e]; simp, by omega⟩, [0, 1, 2, 3, 4], by simp [hC], by simp [leH, leO, leT, leA]⟩)
      | (have e := eN (by assumption)
         exact ⟨A, ⟨e, hA⟩, [0, 1, 2, 3, 4], by simp [hC], by simp [leH, leO, leT, leA]⟩)
      | trace_state
  obtain ⟨hA1, hA1b⟩ := hA1
  rw [hA1] at hbad
  rw [hA1]
  clear hstep hA1
  refine AWp_cut hΓ mixed tau ⟨[.any, .any, .sl .byte b, .any, .ptr 0 0, .any, .any, .any, .osl 1 0, .any, .int .i64 ((A1 : Nat) : Int), .osl 2 pre.length, .int .i64 ((i : Nat) : Int), .ptr 3 0, .ptr 4 0, .int .i64 1] ++ List.replicate 142 .any, [.cells 32 [.str nm, .sl T73 fs], .deep D70 70 [], .deep D70 70 pre, .cells 73 [.str fn, .int .i64 fk, .bool fl, .bool fm, .sl .str fwas, .bool fx, .int .i64 vk, .int .i64 vn, .str vt, .bool vl, .sl T76 vi], .cells 70 [.int .i64 fk, .int .i64 0, .str [], .bool fl, .nilsl]]⟩ True [0, 1, 2, 3, 4] (by simp [hC]) ?_ fun _ => ?_
  · simp
  cases fl with
  | false =>
    have eB : bodyR f b A1 = ((f.2.1, (itemR f.2.1 b A1).1.1, (itemR f.2.1 b A1).1.2, false, []), (itemR f.2.1 b A1).2) := by unfold bodyR; rw [gl]; rfl
    rw [gk] at eB
    have hin := fun h => item_next (k := fk) (b := b) (a := A1) (by omega) h
    obtain ⟨I, hI⟩ : ∃ I, itemR fk b A1 = I := ⟨_, rfl⟩
    rw [hI] at eB hin
    obtain ⟨⟨xn, xt⟩, xa, xc⟩ := I
    simp only at eB hin
    refine AWp_cut hΓ mixed tau ⟨[.any, .any, .sl .byte b, .any, .ptr 0 0, .any, .any, .any, .osl 1 0, .any, .int .i64 ((A1 : Nat) : Int), .osl 2 pre.length, .int .i64 ((i : Nat) : Int), .ptr 3 0, .ptr 4 0, .int .i64 1] ++ List.replicate 142 .any, [.cells 32 [.str nm, .sl T73 fs], .deep D70 70 [], .deep D70 70 pre, .cells 73 [.str fn, .int .i64 fk, .bool false, .bool fm, .sl .str fwas, .bool fx, .int .i64 vk, .int .i64 vn, .str vt, .bool vl, .sl T76 vi], .cells 70 [.int .i64 fk, .int .i64 0, .str [], .bool false, .nilsl]]⟩ True [0, 1, 2, 3, 4] (by simp [hC]) ?_ fun _ => ?_
    · simp (maxSteps := 8000000)
    refine AWp_cut hΓ mixed tau ⟨[.any, .any, .sl .byte b, .any, .ptr 0 0, .any, .any, .any, .osl 1 0, .any, .int .i64 xa, .osl 2 pre.length, .int .i64 ((i : Nat) : Int), .ptr 3 0, .ptr 4 0, .int .i64 1, .any, .any, .any, .int .i64 1] ++ List.replicate 138 .any, [.cells 32 [.str nm, .sl T73 fs], .deep D70 70 [], .deep D70 70 pre, .cells 73 [.str fn, .int .i64 fk, .bool false, .bool fm, .sl .str fwas, .bool fx, .int .i64 vk, .int .i64 vn, .str vt, .bool vl, .sl T76 vi], .cells 70 [.int .i64 fk, .int .i64 xn, .str xt, .bool false, .nilsl]]⟩ (xc = 0) [0, 1, 2, 3, 4] (by simp [hC]) ?_ fun hxc => ?_
    rotate_left
    · subst hxc
      obtain ⟨hx0, hx1⟩ := hin rfl
      refine ACode_ok (τ := tau) hΓ mixed _ _ _ ?_
      simp
      repeat' (first | with_reducible refine And.intro ?_ ?_ | with_reducible intro _ | (show ¬ _; intro _))
      all_goals first
        | omega
        | (show Region.lexB .any _ = true; kernel_rfl)
        | (show (_ : Bool) = true; kernel_rfl)
        | exact ⟨⟨(fk, xn, xt, false, []), xa.toNat, 0⟩, ⟨by rw [eB, show ((xa.toNat : Nat) : Int) = xa by omega], by simp only; omega⟩, [0, 1, 6], by simp [hC], by simp [leH, leO, leT, leA]; omega⟩
        | trace_state
    · simp
      refine AWp_loop_ind hΓ mixed tau (fun y : Nat => if y = 0 then ⟨[.any, .any, .sl .byte b, .any, .ptr 0 0, .any, .any, .any, .osl 1 0, .any, .int .i64 ((A1 : Nat) : Int), .osl 2 pre.length, .int .i64 ((i : Nat) : Int), .ptr 3 0, .ptr 4 0, .int .i64 1, .any, .any, .any, .int .i64 0] ++ List.replicate 138 .any, [.cells 32 [.str nm, .sl T73 fs], .deep D70 70 [], .deep D70 70 pre, .cells 73 [.str fn, .int .i64 fk, .bool false, .bool fm, .sl .str fwas, .bool fx, .int .i64 vk, .int .i64 vn, .str vt, .bool vl, .sl T76 vi], .cells 70 [.int .i64 fk, .int .i64 0, .str [], .bool false, .nilsl]]⟩ else ⟨[.any, .any, .sl .byte b, .any, .ptr 0 0, .any, .any, .any, .osl 1 0, .any, .int .i64 xa, .osl 2 pre.length, .int .i64 ((i : Nat) : Int), .ptr 3 0, .ptr 4 0, .int .i64 1, .any, .any, .any, .int .i64 1] ++ List.replicate 138 .any, [.cells 32 [.str nm, .sl T73 fs], .deep D70 70 [], .deep D70 70 pre, .cells 73 [.str fn, .int .i64 fk, .bool false, .bool fm, .sl .str fwas, .bool fx, .int .i64 vk, .int .i64 vn, .str vt, .bool vl, .sl T76 vi], .cells 70 [.int .i64 fk, .int .i64 xn, .str xt, .bool false, .nilsl]]⟩) (fun y => 1 - y) (fun y => y ≤ 1 ∧ (y = 1 → xc = 0)) 0 [0, 1, 2, 3, 4] ?_ ?_ ?_
      · simp [hC]
      · simp
      have w11 : IntKind.i64.wrap 1 = 1 := wrap64_id (by omega)
      rintro y ⟨hy1, hy⟩
      by_cases hy0 : y = 0
      rotate_left
      · obtain rfl : y = 1 := by omega
        have hxc := hy rfl
        subst hxc
        simp
        try exact ⟨rfl, by simp [leH, leO, leT, leA]⟩
      · subst hy0
        simp (maxSteps := 8000000) [wGetI, hI, hb, hki, hA1b, maxB]
        repeat' (first | with_reducible refine And.intro ?_ ?_ | with_reducible intro _ | (show ¬ _; intro _))
        all_goals first
          | omega
          | (show Region.lexB .any _ = true; kernel_rfl)
          | (show (_ : Bool) = true; kernel_rfl)
          | (have e2 := hbad (by rw [eB]; assumption)
             rw [eB] at e2
             simp [↓retQ_ret, ↓retQ_normal, wRead, e2]; done)
          | exact ⟨1, ⟨by omega, fun _ => by assumption⟩, by omega, [0, 1, 2, 3, 4], by simp [hC], by simp [leH, leO, leT, leA, w11]⟩
          | trace_state
  | true =>
    have eB : bodyR f b A1 = if (numR b A1).2.2 ≠ 0 then ((0, 0, [], false, []), 0, (numR b A1).2.2) else if inB (numR b A1).1 0 30 = false then ((0, 0, [], false, []), 0, 3) else ((f.2.1, 0, [], true, (itemsR f.2.1 b (numR b A1).1.toNat (numR b A1).2.1).1), (itemsR f.2.1 b (numR b A1).1.toNat (numR b A1).2.1).2) := by unfold bodyR; rw [gl]; rfl
    rw [gk] at eB
    have hNb : (numR b A1).2.2 = 0 → 0 ≤ (numR b A1).2.1 ∧ (numR b A1).2.1 ≤ b.length := fun h => by
      unfold numR at h ⊢
      split at h
      · rename_i y hy
        have := getI_in hy
        exact ⟨by simp only; omega, this.2.2.1⟩
      · exact absurd h (scanN_ne b 10 _)
    obtain ⟨U, hU⟩ : ∃ U, numR b A1 = U := ⟨_, rfl⟩
    rw [hU] at eB hNb
    obtain ⟨m, nx, c⟩ := U
    simp only at eB hNb
    refine AWp_cutE hΓ mixed tau (fun z : ZN => ⟨[.any, .any, .sl .byte b, .any, .ptr 0 0, .any, .any, .any, .osl 1 0, .any, .int .i64 ((z.a : Nat) : Int), .osl 2 pre.length, .int .i64 ((i : Nat) : Int), .ptr 3 0, .ptr 4 0, .int .i64 ((z.m : Nat) : Int)] ++ List.replicate 142 .any, [.cells 32 [.str nm, .sl T73 fs], .deep D70 70 [], .deep D70 70 pre, .cells 73 [.str fn, .int .i64 fk, .bool true, .bool fm, .sl .str fwas, .bool fx, .int .i64 vk, .int .i64 vn, .str vt, .bool vl, .sl T76 vi], .cells 70 [.int .i64 fk, .int .i64 0, .str [], .bool true, .nilsl]]⟩) (fun z => z.m ≤ 30 ∧ z.a ≤ b.length ∧ bodyR f b A1 = ((fk, 0, [], true, (itemsR fk b z.m (z.a : Int)).1), (itemsR fk b z.m (z.a : Int)).2)) ?_ fun z hz => ?_
    · simp (maxSteps := 8000000) [wNum, hU, hb, hA1b, wB, maxB]
      repeat' (first | with_reducible refine And.intro ?_ ?_ | with_reducible intro _ | (show ¬ _; intro _))
      all_goals first
        | omega
        | (show Region.lexB .any _ = true; kernel_rfl)
        | (have e := eB
           rw [if_pos (by assumption)] at e
           have e2 := hbad (by rw [e]; assumption)
           rw [e] at e2
           simp [↓retQ_ret, ↓retQ_normal, wRead, e2]; done)
        | (have e := eB
           rw [if_neg (by simp; assumption), if_pos (by assumption)] at e
           have e2 := hbad (by rw [e]; simp)
           rw [e] at e2
           simp [↓retQ_ret, ↓retQ_normal, wRead, e2]; done)
        | (have e := eB
           have hc0 : c = 0 := by assumption
           have hin : inB m 0 30 = true := by assumption
           obtain ⟨q1, q2⟩ := hNb hc0
           have hm : 0 ≤ m ∧ m ≤ 30 := by simpa [inB] using hin
           rw [if_neg (by simp; assumption), if_neg (by rw [hin]; simp)] at e
           refine ⟨⟨m.toNat, nx.toNat⟩, ⟨by simp only; omega, by simp only; omega, ?_⟩, [0, 1, 2, 3, 4], by simp [hC], ?_⟩
           · rw [e]; simp only; rw [show ((nx.toNat : Nat) : Int) = nx by omega]
           · simp [leH, leO, leT, leA]; omega)
        | trace_state
    obtain ⟨M, A2⟩ := z
    simp only at hz
    obtain ⟨hM, hA2, eB2⟩ := hz
    rw [eB2] at hbad ⊢
    simp only at hbad
    clear eB eB2 hNb hU
    obtain ⟨Y, hY⟩ : ∃ Y, Y = itemsR fk b M (A2 : Int) := ⟨_, rfl⟩
    rw [← hY] at hbad ⊢
    have hI0 : comb [] (itemsR fk b (M - 0) (A2 : Int)) = Y := by rw [hY, comb_items]; rfl
    refine AWp_nilc 4 4 70 _ T76 76 rfl rfl ?_
    simp
    refine AWp_cut hΓ mixed tau ⟨[.any, .any, .sl .byte b, .any, .ptr 0 0, .any, .any, .any, .osl 1 0, .any, .int .i64 Y.2.1, .osl 2 pre.length, .int .i64 ((i : Nat) : Int), .ptr 3 0, .ptr 4 0] ++ List.replicate 143 .any, [.cells 32 [.str nm, .sl T73 fs], .deep D70 70 [], .deep D70 70 pre, .cells 73 [.str fn, .int .i64 fk, .bool true, .bool fm, .sl .str fwas, .bool fx, .int .i64 vk, .int .i64 vn, .str vt, .bool vl, .sl T76 vi], .cells 70 [.int .i64 fk, .int .i64 0, .str [], .bool true, .osl 5 (List.length Y.1)], .arr T76 76 Y.1]⟩ (Y.2.2 = 0 ∧ Y.1.length ≤ 30 ∧ 0 ≤ Y.2.1 ∧ Y.2.1 ≤ b.length) [0, 1, 2, 3, 4, 5] (by simp [hC]) ?_ fun hY0 => ?_
    rotate_left
    · obtain ⟨y1, y2, y3, y4⟩ := hY0
      obtain ⟨Y1, Y2, Y3⟩ := Y
      simp only at y1 y2 y3 y4
      subst y1
      change List T76.D at Y1; change Int at Y2
      refine ACode_ok (τ := tau) hΓ mixed _ _ _ ?_
      simp
      repeat' (first | with_reducible refine And.intro ?_ ?_ | with_reducible intro _ | (show ¬ _; intro _))
      all_goals first
        | omega
        | (show Region.lexB .any _ = true; kernel_rfl)
        | (show (_ : Bool) = true; kernel_rfl)
        | exact ⟨⟨(fk, 0, [], true, Y1), Y2.toNat, 0⟩, ⟨⟨rfl, by simp only; omega⟩, by simp only; omega⟩, [0, 1, 7], by simp [hC], by simp [leH, leO, leT, leA]; omega⟩
        | trace_state
    simp
    refine AWp_loop_ind hΓ mixed tau (fun y : Nat × List T76.D × Nat => ⟨[.any, .any, .sl .byte b, .any, .ptr 0 0, .any, .any, .any, .osl 1 0, .any, .int .i64 ((y.2.2 : Nat) : Int), .osl 2 pre.length, .int .i64 ((i : Nat) : Int), .ptr 3 0, .ptr 4 0, .int .i64 ((M : Nat) : Int), .any, .any, .any, .int .i64 ((y.1 : Nat) : Int)] ++ List.replicate 138 .any, [.cells 32 [.str nm, .sl T73 fs], .deep D70 70 [], .deep D70 70 pre, .cells 73 [.str fn, .int .i64 fk, .bool true, .bool fm, .sl .str fwas, .bool fx, .int .i64 vk, .int .i64 vn, .str vt, .bool vl, .sl T76 vi], .cells 70 [.int .i64 fk, .int .i64 0, .str [], .bool true, .osl 5 (List.length y.2.1)], .arr T76 76 y.2.1]⟩) (fun y => M - y.1) (fun y => y.1 ≤ M ∧ y.2.1.length = y.1 ∧ y.2.2 ≤ b.length ∧ comb y.2.1 (itemsR fk b (M - y.1) ((y.2.2 : Nat) : Int)) = Y) (0, [], A2) [0, 1, 2, 3, 4, 5] ?_ ?_ ?_
    · simp [hC]
    · exact ⟨by simp, by simp, hA2, hI0⟩
    rintro ⟨k, its, A3⟩ ⟨hk, hkl, hA3, hco⟩
    change List T76.D at its
    simp only at hk hkl hA3 hco
    have w2 : k < M → IntKind.i64.wrap ((k : Int) + 1) = ((k + 1 : Nat) : Int) := fun h => by rw [wrap64_id (by omega)]; omega
    have hin := fun h => item_next (k := fk) (b := b) (a := A3) (by omega) h
    have hMk : k < M → M - k = (M - (k + 1)) + 1 := fun h => by omega
    have hend : M ≤ k → Y = (its, (A3 : Int), 0) := fun h => by
      rw [← hco, show M - k = 0 by omega]
      simp [comb, itemsR]
    have hib : k < M → (itemR fk b A3).2.2 ≠ 0 → Y = ([], 0, (itemR fk b A3).2.2) := fun h h2 => by rw [← hco, hMk h, comb_item_bad h2]
    have his : k < M → (itemR fk b A3).2.2 = 0 → comb (its ++ [(itemR fk b A3).1]) (itemsR fk b (M - (k + 1)) (itemR fk b A3).2.1) = Y := fun h h2 => by rw [← hco, hMk h, comb_item_step h2]
    obtain ⟨I, hI⟩ : ∃ I, itemR fk b A3 = I := ⟨_, rfl⟩
    rw [hI] at hin hib his
    obtain ⟨⟨xn, xt⟩, xa, xc⟩ := I
    simp only at hin hib his
    simp (maxSteps := 8000000) [wGetI, hI, hb, hki, hA3, maxB]
    repeat' (first | with_reducible refine And.intro ?_ ?_ | with_reducible intro _ | (show ¬ _; intro _))
    all_goals first
      | omega
      | (show Region.lexB .any _ = true; kernel_rfl)
      | (show (_ : Bool) = true; kernel_rfl)
      | (have e1 := hib (by assumption) (by assumption)
         have e2 := hbad (by rw [e1]; assumption)
         rw [e1] at e2
         simp [↓retQ_ret, ↓retQ_normal, wRead, e2]; done)
      | (have hxc : xc = 0 := by assumption
         obtain ⟨q1, q2⟩ := hin hxc
         have e1 := his (by assumption) hxc
         refine ⟨k + 1, its ++ [(xn, xt)], xa.toNat, ⟨by omega, by simp [hkl], by omega, by rw [show ((xa.toNat : Nat) : Int) = xa by omega]; exact e1⟩, by omega, [0, 1, 2, 3, 4, 8], by simp [hC], by decide, ⟨rfl, rfl, by omega, rfl, rfl, rfl, w2 (by assumption)⟩, by simp [leH, leO, leT, leA]⟩)
      | (have e := hend (by omega)
         first | (rw [e]; done) | (rw [e]; simp only; omega) | (rw [e]; refine ⟨⟨rfl, by simp only; omega, by simp only; omega, by simp only; omega⟩, ?_⟩; simp [leH, leO, leT, leA]))
      | trace_state
end Go.Proofs.Ythojapklndjidaa
