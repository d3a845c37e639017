/- The law FnDenied. -/
import Derived.Test.YtmbnmbgihcmapaaDoorRz
import Derived.Test.YtmbnmbgihcmapaaDoorRg
namespace Go.Proofs.YtmbnmbgihcmapaaDoor
open Go Go.RowKit
set_option linter.all false
set_option pp.deepTerms true
set_option pp.maxSteps 200000
set_option maxRecDepth 100000
set_option maxHeartbeats 8000000
def wBig : Spec [(false, .sl .byte)] := ⟨fun _ => True, fun x _ => .bool (decide (1048576 < (x.1.length : Int))), fun _ => []⟩
theorem big_ok : FSpecOk Tryd.prog 15 wBig := by
  intro x n hp
  obtain ⟨code, u⟩ := x; change List UInt8 at code
  refine FnOk_intro [.one .w] Tryd.func15 rfl ?_
  intro hw C hC
  refine ACode_ok (τ := tau) noC_ok mixed _ _ _ ?_
  simp [Tryd.f15, wBig]
  intro _
  simp [↓retQ_ret, ↓retQ_normal]
def law5 : Spec [(false, .sl .byte), (false, .sl .byte)] := ⟨fun _ => True, fun _ _ => .bool true, fun _ => []⟩
theorem law5_ok : FSpecOk Tryd.prog 5 law5 := by
  intro x n hp
  obtain ⟨code, more, u⟩ := x; change List UInt8 at code more
  refine FnOk_intro [.one .w] Tryd.func5 rfl ?_
  intro hw C hC
  have hΓ := CtrsOk.addP (id := 11) (p := .take 1 (.take 3 (.take 6 (.take 7 (.take 8 (.take 9 (.two 0 4 (.two 2 4 (.one 4 (.one 5 (.one 10 (.one 11 (.done))))) (.one 2 (.one 5 (.one 10 (.one 11 (.done)))))) (.one 0 (.one 2 (.one 5 (.one 10 (.one 11 (.done))))))))))))) (CtrOk.add big_ok rfl (CtrOk.add f9_ok rfl (CtrOk.add f13_ok rfl (CtrOk.add f14_ok rfl (CtrsOk.addX da_x rfl (CtrsOk.addX ds_x rfl (noC_ok : CtrsOk Tryd.prog noC)))))))
  refine AWp_cut hΓ mixed tau ⟨[.sl .byte code, .sl .byte more] ++ List.replicate 117 .any, []⟩ True [] (by simp [hC]) ?_ fun _ => ?_
  · simp [Tryd.f5]
  refine AWp_cut hΓ mixed tau ⟨[.sl .byte code, .sl .byte more] ++ List.replicate 117 .any, []⟩ (code.length ≤ 1048576 ∧ more.length ≤ 1048576) [] (by simp [hC]) ?_ fun hb => ?_
  · simp [wBig]
    repeat' (first | with_reducible refine And.intro ?_ ?_ | with_reducible intro _ | (show ¬ _; intro _))
    all_goals first
      | omega
      | (simp [↓retQ_ret, law5]; done)
      | trace_state
  refine AWp_cutE hΓ mixed tau (fun y : List T37.D × List UInt8 × Int × Int × List UInt8 => ⟨[.sl .byte code, .sl .byte more, .any, .any, .any, .sl T37 y.1, .str y.2.1, .int .i64 y.2.2.1, .int .i64 y.2.2.2.1, .str y.2.2.2.2] ++ List.replicate 109 .any, []⟩) (fun y => y.1.length ≤ 5 ∧ 1 ≤ y.2.2.2.1 ∧ y.2.2.2.1 ≤ 2) ?_ ?_
  · simp [xDA, hb.1]
    intro l who may on name h1 h2 h3
    exact ⟨l, who, may, on, ⟨h1, h2, h3⟩, name, [], by simp [hC], by decide, ⟨rfl, rfl, rfl, rfl, rfl⟩, by simp [leH]⟩
  rintro ⟨l, who, may, on, name⟩ ⟨hl, ho1, ho2⟩
  change List T37.D at l; change List UInt8 at who name; change Int at may on
  have hl : l.length ≤ 5 := hl
  have ho1 : 1 ≤ on := ho1
  have ho2 : on ≤ 2 := ho2
  refine AWp_cutE hΓ mixed tau (fun y : List T37.D => ⟨[.sl .byte code, .sl .byte more, .any, .any, .any, .sl T37 l, .str who, .int .i64 may, .int .i64 on, .str name, .sl T37 y] ++ List.replicate 108 .any, []⟩) (fun y => y.length ≤ 110) ?_ ?_
  · simp [xDS, hb.2]
    intro rs h1
    exact ⟨rs, h1, [], by simp [hC], by decide, rfl, by simp [leH]⟩
  intro rs hrs
  change List T37.D at rs
  have hrs : rs.length ≤ 110 := hrs
  by_cases hc : (rs = [] ∨ showR (List.take 1 rs) = []) ∨ 0 < l.length ∧ showR l = []
  · refine AWp_cut hΓ mixed tau ⟨[.sl .byte code, .sl .byte more, .any, .any, .any, .nilsl, .str who, .int .i64 may, .int .i64 on, .str name, .osl 0 1] ++ List.replicate 108 .any, [.arr T37 37 [(false, [42], 4, on, [], true)]]⟩ True [0] (by simp [hC]) ?_ fun _ => ?_
    · simp (maxSteps := 4000000) [wShow, maxB]
      have hlen : ¬ rs = [] → 1 ≤ rs.length := fun h => List.length_pos_iff.2 h
      have hz : ¬ rs = [] → ¬ showR (List.take 1 rs) = [] → 0 < l.length ∧ showR l = [] := fun h k => by
        rcases hc with (h' | k') | r
        · exact absurd h' h
        · exact absurd k' k
        · exact r
      repeat' (first | with_reducible refine And.intro ?_ ?_ | with_reducible intro _ | (show ¬ _; intro _))
      all_goals first
        | omega
        | contradiction
        | exact hlen (by assumption)
        | exact (hz (by assumption) (by assumption)).1
        | exact (hz (by assumption) (by assumption)).2
        | trace_state
    have h0 : nth T37 [(false, [42], 4, on, [], true)] 0 = (false, [42], 4, on, [], true) := rfl
    have hA0 : allowB [] who may on name = false := by simp [allowB, allowL]
    have hC0 : allowB [(false, [42], 4, 1, [], true)] [97, 110, 110] 1 1 [120] = true := by decide
    refine ACode_ok (τ := tau) hΓ mixed _ _ _ ?_
    simp (maxSteps := 4000000) [wAll, maxB, law5, h0, hA0, hC0]
    repeat' (first | with_reducible refine And.intro ?_ ?_ | with_reducible intro _ | (show ¬ _; intro _))
    all_goals first
      | omega
      | contradiction
      | (show (_ : Bool) = true; kernel_rfl)
      | (simp [↓retQ_ret, law5, hC0]; done)
      | trace_state
  · have hr0 : ¬ rs = [] := fun h => hc (.inl (.inl h))
    have hr1 : ¬ showR (List.take 1 rs) = [] := fun h => hc (.inl (.inr h))
    have hl1 : 0 < l.length → ¬ showR l = [] := fun h k => hc (.inr ⟨h, k⟩)
    refine AWp_cut hΓ mixed tau ⟨[.sl .byte code, .sl .byte more, .any, .any, .any, .sl T37 l, .str who, .int .i64 may, .int .i64 on, .str name, .sl T37 rs] ++ List.replicate 108 .any, []⟩ True [] (by simp [hC]) ?_ fun _ => ?_
    · simp (maxSteps := 4000000) [wShow, maxB]
      have hlen : ¬ rs = [] → 1 ≤ rs.length := fun h => List.length_pos_iff.2 h
      repeat' (first | with_reducible refine And.intro ?_ ?_ | with_reducible intro _ | (show ¬ _; intro _))
      all_goals first
        | omega
        | contradiction
        | exact hlen (by assumption)
        | (exact hc ‹_›)
        | exact absurd ‹showR l = []› (hl1 (by assumption))
        | trace_state
    cases rs with
    | nil => exact absurd rfl hr0
    | cons r0 rs' =>
      have hr2 : ruleB r0 = true := by
        have h2 : showOk [r0] = true := by
          cases h : showOk [r0] with
          | true => rfl
          | false => exact absurd (by simp [showR, h]) hr1
        simpa using (showOk_all h2).1
      have hl2 : l.all ruleB = true := by
        cases l with
        | nil => rfl
        | cons a l' =>
          have h2 : showOk (a :: l') = true := by
            cases h : showOk (a :: l') with
            | true => rfl
            | false => exact absurd (by simp [showR, h]) (hl1 (by simp))
          exact (showOk_all h2).1
      have h0 : nth T37 (r0 :: rs') 0 = r0 := rfl
      have hd := den_law (L := l) (r := r0) who may on name hr2 hl2 (by omega)
      have hC0 : allowB [(false, [42], 4, 1, [], true)] [97, 110, 110] 1 1 [120] = true := by decide
      obtain ⟨rd, rw0, rm, ro, rn, rst⟩ := r0
      obtain ⟨d1, d2, d3⟩ := hd
      have d2 : rd = true → allowB ((rd, rw0, rm, ro, rn, rst) :: l) who may on name = true → allowB l who may on name = true := d2
      have d3 : rd = false → allowB l who may on name = true → allowB ((rd, rw0, rm, ro, rn, rst) :: l) who may on name = true := d3
      have ht : List.take (l.length + 1) (l ++ [(rd, rw0, rm, ro, rn, rst)]) = l ++ [(rd, rw0, rm, ro, rn, rst)] := List.take_of_length_le (by simp)
      have hx : (rd = false ∨ allowB ((rd, rw0, rm, ro, rn, rst) :: l) who may on name = false) ∨ allowB l who may on name = true := by
        cases hA : allowB ((rd, rw0, rm, ro, rn, rst) :: l) who may on name with
        | false => exact .inl (.inr rfl)
        | true =>
          cases hd : rd with
          | false => exact .inl (.inl rfl)
          | true => exact .inr (d2 hd hA)
      have hy : ¬ ((rd = true ∧ allowB ((rd, rw0, rm, ro, rn, rst) :: l) who may on name = true) ∧ allowB l who may on name = false ∨ (rd = false ∧ allowB l who may on name = true) ∧ allowB ((rd, rw0, rm, ro, rn, rst) :: l) who may on name = false) := by
        rintro (⟨⟨a, b⟩, c⟩ | ⟨⟨a, b⟩, c⟩)
        · rw [d2 a b] at c; cases c
        · rw [d3 a b] at c; cases c
      refine ACode_ok (τ := tau) hΓ mixed _ _ _ ?_
      simp (maxSteps := 4000000) [wAll, maxB, law5, h0, hC0, ht, d1.symm]
      repeat' (first | with_reducible refine And.intro ?_ ?_ | with_reducible intro _ | (show ¬ _; intro _))
      all_goals first
        | omega
        | contradiction
        | (show (_ : Bool) = true; kernel_rfl)
        | exact hx
        | exact absurd (by assumption) hy
        | (simp [↓retQ_ret, law5, hC0]; done)
        | trace_state
end Go.Proofs.YtmbnmbgihcmapaaDoor
