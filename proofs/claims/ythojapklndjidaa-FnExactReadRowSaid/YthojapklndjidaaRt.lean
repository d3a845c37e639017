/- Rows read from bytes: an item by the program's reader. -/
import Derived.Test.YthojapklndjidaaRr
import Derived.Test.YthojapklndjidaaVa
namespace Go.Proofs.Ythojapklndjidaa
open Go Go.RowKit
set_option linter.all false
set_option pp.deepTerms true
set_option pp.maxSteps 200000
set_option maxRecDepth 100000
set_option maxHeartbeats 8000000
theorem int_in {b : List UInt8} {a c : Int} (hb : b.length ≤ 16777216) (ha : 0 ≤ a ∧ a ≤ b.length) : (rdInt (b, a, c)).2.1 = b ∧ 0 ≤ (rdInt (b, a, c)).2.2.1 ∧ (rdInt (b, a, c)).2.2.1 ≤ b.length ∧ -9223372036854775808 ≤ (rdInt (b, a, c)).1 ∧ (rdInt (b, a, c)).1 ≤ 9223372036854775807 := by
  unfold rdInt
  split
  · exact ⟨rfl, ha.1, ha.2, by simp, by simp⟩
  · split
    · rename_i x hx
      have := getI_in hx
      simp only at this
      exact ⟨rfl, by simp; omega, by simp; omega, this.2.2.2.2.1, this.2.2.2.2.2⟩
    · exact ⟨rfl, ha.1, ha.2, by simp, by simp⟩
def hItm : HSpec [.ref 92 T92, .val false (.int .i64)] := ⟨fun x => x.1.1.length ≤ 16777216 ∧ 0 ≤ iv x.1.2.1 ∧ iv x.1.2.1 ≤ x.1.1.length, fun x => .agg (flat T76 (rdItem x.2.1 x.1).1), fun x => [.cells 92 (flat T92 (rdItem x.2.1 x.1).2)]⟩
theorem AWp_cutV {P : Program} {C : Ctx} {x y : Code} {S : St} {Q : AExit → St → Prop} (S1 : St) (F : Prop) (ps : List Nat) (hpre : ∀ i, i < C.L0.length → ps[i]? = some i)
    (h1 : AWp P C x S (thenQ (fun S' => F ∧ St.le ps S' S1) Q)) (h2 : F → AWp P C y S1 Q) : AWp P C (.seq x y) S Q := by
  refine AWp_seq (h1.mono fun e S' hq => ?_)
  cases e with
  | normal => exact AWp_sub ps hpre hq.2 (h2 hq.1)
  | exit i => exact hq
  | ret => exact hq
/-- The code behind the three looks at a text's length. -/
def tc2 (n c : Int) : Int := if inB n 0 100 = true then c else if c = 0 then 3 else c
def tc3 (b : List UInt8) (a n c : Int) : Int := if tc2 n c = 0 ∧ (b.length : Int) - a < n then 2 else tc2 n c
theorem text_eq {b : List UInt8} {a c n a1 c1 : Int} (h : rdInt (b, a, c) = (n, (b, a1, c1))) : rdText (b, a, c) = (if tc3 b a1 n c1 = 0 then ((0, (b.drop a1.toNat).take n.toNat), (b, a1 + n, 0)) else ((0, []), (b, a1, tc3 b a1 n c1))) := by
  have e2 : (if inB n 0 100 = true then ((b, a1, c1) : RdX) else rdFail (b, a1, c1) 3) = (b, a1, tc2 n c1) := by
    unfold tc2 rdFail; repeat' split
    all_goals simp_all
  have e3 : (if tc2 n c1 = 0 ∧ (b.length : Int) - a1 < n then rdFail (b, a1, tc2 n c1) 2 else ((b, a1, tc2 n c1) : RdX)) = (b, a1, tc3 b a1 n c1) := by
    unfold tc3 rdFail
    by_cases h1 : tc2 n c1 = 0 ∧ (b.length : Int) - a1 < n
    · rw [if_pos h1, if_pos h1, if_pos h1.1]
    · rw [if_neg h1, if_neg h1]
  unfold rdText
  simp only [h, e2]
  rw [e3]
theorem tc3_ok {b : List UInt8} {a n c : Int} (h : tc3 b a n c = 0) : 0 ≤ n ∧ n ≤ 100 ∧ n ≤ b.length - a ∧ c = 0 := by
  unfold tc3 at h
  split at h
  · cases h
  · rename_i h1
    have h2 : ¬ (b.length : Int) - a < n := fun h3 => h1 ⟨h, h3⟩
    unfold tc2 at h
    split at h
    · rename_i hB
      have : 0 ≤ n ∧ n ≤ 100 := by simpa [inB] using hB
      exact ⟨this.1, this.2, by omega, h⟩
    · split at h
      · cases h
      · rename_i h4; exact absurd h h4
theorem f51_ok : HSpecOk Try.prog 51 hItm := by
  intro x hp
  obtain ⟨⟨b, a, c⟩, k, u⟩ := x; change List UInt8 at b; change Int at a c k
  obtain ⟨hb, h0, h1⟩ : b.length ≤ 16777216 ∧ 0 ≤ a ∧ a ≤ b.length := hp
  refine HOk_intro [false] [0] rfl Try.func51 rfl ?_
  intro hw C hC
  have hΓ := CtrsOk.addPX (id := 13) (X := [2]) (p := .take 0 (.take 1 (.take 2 (.take 3 (.take 4 (.take 5 (.take 6 (.take 7 (.take 8 (.take 9 (.take 10 (.take 11 (.take 12 (.take 13 (.take 14 (.take 15 (.take 16 (.one 17 (.done))))))))))))))))))) (CtrsOk.addH f50_ok rfl (CtrsOk.addH f52_ok rfl (CtrsOk.addH f54_ok rfl (CtrOk.add f53_ok rfl (CtrOk.add f88_ok rfl (noC_ok : CtrsOk Try.prog noC))))))
  refine AWp_cut hΓ mixed tau ⟨[.ptr 0 0, .int .i64 k, .any, .any, .ptr 1 0] ++ List.replicate 85 .any, [.cells 92 [.sl .byte b, .int .i64 a, .int .i64 c], .cells 76 [.int .i64 0, .str []]]⟩ True [0, 1] (by simp [hC, encOs]) ?_ fun _ => ?_
  · simp [Try.f51, maxB]
  refine AWp_cut hΓ mixed tau ⟨[.ptr 0 0, .int .i64 k, .any, .any, .ptr 1 0, .ptr 2 0] ++ List.replicate 84 .any, [.cells 92 [.sl .byte b, .int .i64 a, .int .i64 c], .cells 76 [.int .i64 0, .str []], .cells 76 [.int .i64 0, .str []]]⟩ True [0, 1, 2] (by simp [hC, encOs]) ?_ fun _ => ?_
  · simp [maxB]
  obtain ⟨Z, hZ⟩ : ∃ Z, rdItem0 k (b, a, c) = Z := ⟨_, rfl⟩
  obtain ⟨⟨zn, zt⟩, zb, za, zc⟩ := Z
  have e1 : zc = 0 → itemB k (zn, zt) = false → rdItem k (b, a, c) = ((zn, zt), rdFail (zb, za, zc) 3) := fun h1 h2 => by
    unfold rdItem; rw [hZ, if_pos ⟨h1, h2⟩]
  have e2 : ¬ (zc = 0 ∧ itemB k (zn, zt) = false) → rdItem k (b, a, c) = ((zn, zt), (zb, za, zc)) := fun h => by
    unfold rdItem; rw [hZ, if_neg h]
  refine AWp_cutV ⟨[.ptr 0 0, .int .i64 k, .any, .any, .ptr 1 0, .ptr 2 0] ++ List.replicate 84 .any, [.cells 92 [.sl .byte zb, .int .i64 za, .int .i64 zc], .cells 76 [.int .i64 0, .str []], .cells 76 [.int .i64 zn, .str zt]]⟩ True [0, 1, 2] (by simp [hC, encOs]) ?_ fun _ => ?_
  · refine AWp_cut hΓ mixed tau ⟨[.ptr 0 0, .int .i64 k, .any, .any, .ptr 1 0, .ptr 2 0, .any, .int .i64 k] ++ List.replicate 82 .any, [.cells 92 [.sl .byte b, .int .i64 a, .int .i64 c], .cells 76 [.int .i64 0, .str []], .cells 76 [.int .i64 0, .str []]]⟩ True [0, 1, 2] (by simp [hC, encOs]) ?_ fun _ => ?_
    · simp
    refine AWp_block ?_
    by_cases k1 : k = 1
    · have e : rdItem0 k (b, a, c) = (((rdFlag (b, a, c)).1, []), (rdFlag (b, a, c)).2) := by unfold rdItem0; rw [if_pos k1]
      rw [e] at hZ
      simp only [Prod.mk.injEq] at hZ
      obtain ⟨⟨q1, q2⟩, q3⟩ := hZ
      subst q2
      refine AWp_cut hΓ mixed tau ⟨[.ptr 0 0, .int .i64 k, .any, .any, .ptr 1 0, .ptr 2 0] ++ List.replicate 5 .any ++ [.bool true] ++ List.replicate 78 .any, [.cells 92 [.sl .byte b, .int .i64 a, .int .i64 c], .cells 76 [.int .i64 0, .str []], .cells 76 [.int .i64 0, .str []]]⟩ True [0, 1, 2] (by simp [hC, encOs]) ?_ fun _ => ?_
      · simp [k1]
      refine AWp_cond (b := true) (by simp [aev]) (fun _ => ?_) (fun h => by cases h)
      refine ACode_ok (τ := tau) hΓ mixed _ _ _ ?_
      simp [hFlag, hb, h0, h1, maxB, q1, q3]
    refine AWp_cut hΓ mixed tau ⟨[.ptr 0 0, .int .i64 k, .any, .any, .ptr 1 0, .ptr 2 0, .any, .int .i64 k, .any, .any, .any, .bool false] ++ List.replicate 78 .any, [.cells 92 [.sl .byte b, .int .i64 a, .int .i64 c], .cells 76 [.int .i64 0, .str []], .cells 76 [.int .i64 0, .str []]]⟩ True [0, 1, 2] (by simp [hC, encOs]) ?_ fun _ => ?_
    · simp [k1]
    refine AWp_cond (b := false) (by simp [aev]) (fun h => by cases h) (fun _ => ?_)
    by_cases k4 : k = 4
    · have e : rdItem0 k (b, a, c) = rdText (b, a, c) := by unfold rdItem0; rw [if_neg k1, if_pos k4]
      rw [e] at hZ
      obtain ⟨i1, i2, i3, i4, i5⟩ := int_in (c := c) hb ⟨h0, h1⟩
      obtain ⟨I, hI⟩ : ∃ I, rdInt (b, a, c) = I := ⟨_, rfl⟩
      rw [hI] at i1 i2 i3 i4 i5
      obtain ⟨n, b1, a1, c1⟩ := I
      simp only at i1 i2 i3 i4 i5
      have i1 := i1.symm
      subst i1
      rw [text_eq hI] at hZ
      obtain ⟨A, rfl⟩ : ∃ A : Nat, a1 = A := ⟨a1.toNat, by omega⟩
      have wL : IntKind.i64.wrap ((b.length : Int) - A) = (b.length : Int) - A := wrap64_id (by omega)
      refine AWp_cut hΓ mixed tau ⟨[.ptr 0 0, .int .i64 k, .any, .any, .ptr 1 0, .ptr 2 0] ++ List.replicate 10 .any ++ [.bool true] ++ List.replicate 73 .any, [.cells 92 [.sl .byte b, .int .i64 a, .int .i64 c], .cells 76 [.int .i64 0, .str []], .cells 76 [.int .i64 0, .str []]]⟩ True [0, 1, 2] (by simp [hC, encOs]) ?_ fun _ => ?_
      · simp [k4]
      refine AWp_cond (b := true) (by simp [aev]) (fun _ => ?_) (fun h => by cases h)
      refine AWp_cut hΓ mixed tau ⟨[.ptr 0 0, .int .i64 k, .any, .any, .ptr 1 0, .ptr 2 0, .int .i64 n] ++ List.replicate 83 .any, [.cells 92 [.sl .byte b, .int .i64 A, .int .i64 c1], .cells 76 [.int .i64 0, .str []], .cells 76 [.int .i64 0, .str []]]⟩ True [0, 1, 2] (by simp [hC, encOs]) ?_ fun _ => ?_
      · simp [hInt, hb, h0, h1, hI]
      refine AWp_cut hΓ mixed tau ⟨[.ptr 0 0, .int .i64 k, .any, .any, .ptr 1 0, .ptr 2 0, .int .i64 n] ++ List.replicate 83 .any, [.cells 92 [.sl .byte b, .int .i64 A, .int .i64 (tc2 n c1)], .cells 76 [.int .i64 0, .str []], .cells 76 [.int .i64 0, .str []]]⟩ True [0, 1, 2] (by simp [hC, encOs]) ?_ fun _ => ?_
      · cases hB : inB n 0 100 with
        | true => simp [wB, hB, tc2]
        | false =>
          simp [wB, hB, tc2, hFail, rdFail]
          try (by_cases hc : c1 = 0 <;> simp [hc, leH, leO, leT, leA])
      obtain ⟨d2, hd2⟩ : ∃ d2, tc2 n c1 = d2 := ⟨_, rfl⟩
      obtain ⟨d3, hd3⟩ : ∃ d3, tc3 b A n c1 = d3 := ⟨_, rfl⟩
      have hd23 : d3 = if d2 = 0 ∧ (b.length : Int) - A < n then 2 else d2 := by rw [← hd3, ← hd2]; rfl
      have hok := fun h => tc3_ok (b := b) (a := A) (n := n) (c := c1) h
      rw [hd3] at hZ hok
      rw [hd2]
      refine AWp_cut hΓ mixed tau ⟨[.ptr 0 0, .int .i64 k, .any, .any, .ptr 1 0, .ptr 2 0, .int .i64 n] ++ List.replicate 83 .any, [.cells 92 [.sl .byte b, .int .i64 A, .int .i64 d3], .cells 76 [.int .i64 0, .str []], .cells 76 [.int .i64 0, .str []]]⟩ True [0, 1, 2] (by simp [hC, encOs]) ?_ fun _ => ?_
      · simp [hFail, rdFail, wL]
        repeat' (first | with_reducible refine And.intro ?_ ?_ | with_reducible intro _ | (show ¬ _; intro _))
        all_goals first
          | omega
          | (show Region.lexB .any _ = true; kernel_rfl)
          | (rw [if_pos (by assumption)]; done)
          | (rw [if_pos (by assumption), hd23, if_pos ⟨by assumption, by omega⟩]; done)
          | (rw [hd23]; simp_all; done)
          | (rw [hd23, if_neg (by omega)]; done)
          | (rw [hd23, if_pos (by omega)]; done)
          | trace_state
      by_cases h3 : d3 = 0
      · obtain ⟨n0, n1, n2, _⟩ := hok h3
        obtain ⟨K, rfl⟩ : ∃ K : Nat, n = K := ⟨n.toNat, by omega⟩
        have wS : IntKind.i64.wrap ((A : Int) + K) = (A : Int) + K := wrap64_id (by omega)
        have tS : ((A : Int) + (K : Int)).toNat = A + K := by omega
        have eS : List.drop A (List.take (A + K) b) = List.take K (List.drop A b) := by rw [List.drop_take]; congr 1; omega
        rw [if_pos h3] at hZ
        simp only [Prod.mk.injEq, Int.toNat_natCast] at hZ
        obtain ⟨⟨rfl, rfl⟩, rfl, rfl, rfl⟩ := hZ
        subst h3
        refine ACode_ok (τ := tau) hΓ mixed _ _ _ ?_
        simp (maxSteps := 8000000) [maxB, wS, tS, eS]
        repeat' (first | with_reducible refine And.intro ?_ ?_ | with_reducible intro _ | (show ¬ _; intro _))
        all_goals first
          | omega
          | (show (_ : Bool) = true; kernel_rfl)
          | trace_state
      · rw [if_neg h3] at hZ
        simp only [Prod.mk.injEq] at hZ
        obtain ⟨⟨rfl, rfl⟩, rfl, rfl, rfl⟩ := hZ
        refine ACode_ok (τ := tau) hΓ mixed _ _ _ ?_
        simp [h3]
    · have e : rdItem0 k (b, a, c) = (((rdInt (b, a, c)).1, []), (rdInt (b, a, c)).2) := by unfold rdItem0; rw [if_neg k1, if_neg k4]
      rw [e] at hZ
      simp only [Prod.mk.injEq] at hZ
      obtain ⟨⟨q1, q2⟩, q3⟩ := hZ
      subst q2
      refine AWp_cut hΓ mixed tau ⟨[.ptr 0 0, .int .i64 k, .any, .any, .ptr 1 0, .ptr 2 0] ++ List.replicate 10 .any ++ [.bool false] ++ List.replicate 73 .any, [.cells 92 [.sl .byte b, .int .i64 a, .int .i64 c], .cells 76 [.int .i64 0, .str []], .cells 76 [.int .i64 0, .str []]]⟩ True [0, 1, 2] (by simp [hC, encOs]) ?_ fun _ => ?_
      · simp [k4]
      refine AWp_cond (b := false) (by simp [aev]) (fun h => by cases h) (fun _ => ?_)
      refine ACode_ok (τ := tau) hΓ mixed _ _ _ ?_
      simp [hInt, hb, h0, h1, maxB, q1, q3]
  refine ACode_ok (τ := tau) hΓ mixed _ _ _ ?_
  simp (maxSteps := 8000000) [w71, hFail, maxB]
  repeat' (first | with_reducible refine And.intro ?_ ?_ | with_reducible intro _ | (show ¬ _; intro _))
  all_goals first
    | omega
    | (show Region.lexB .any _ = true; kernel_rfl)
    | (have e := e1 (by assumption) (by assumption)
       simp [↓retHQ_ret, ↓retHQ_normal, hItm, e]; done)
    | (have e := e2 (fun ⟨p, q⟩ => by have h9 := (by assumption : zc = 0 → itemB k (zn, zt) = true) p; rw [q] at h9; cases h9)
       simp [↓retHQ_ret, ↓retHQ_normal, hItm, e]; done)
    | trace_state
end Go.Proofs.Ythojapklndjidaa
