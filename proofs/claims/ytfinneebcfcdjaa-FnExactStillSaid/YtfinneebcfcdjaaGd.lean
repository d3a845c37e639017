/- Slots apart: the contracts of apart, l9In, Equal. -/
import Derived.Test.YtfinneebcfcdjaaGc
import Derived.Test.YtfinneebcfcdjaaGs
namespace Go.Proofs.Ytfinneebcfcdjaa
open Go Go.RowKit
set_option linter.all false
set_option maxRecDepth 100000
set_option maxHeartbeats 4000000
def wApart : Spec [(false, .sl (.sl T48))] := ⟨fun _ => True, fun x _ => .bool (decide (List.flatten (x.1 : List (List T48.D))).Nodup), fun _ => []⟩
def wIn : Spec [(false, .sl T48), (true, T48)] := ⟨fun _ => True, fun x _ => .bool (decide (x.2.1 ∈ (x.1 : List T48.D))), fun _ => []⟩
def wEqS : Spec [(false, .sl T48), (false, .sl T48)] := ⟨fun _ => True, fun x _ => .bool (decide ((x.1 : List T48.D) = x.2.1)), fun _ => []⟩
theorem flatten_take {α : Type} {ls : List (List α)} {i : Nat} (h : i < ls.length) : (ls.take (i + 1)).flatten = (ls.take i).flatten ++ ls.getD i [] := by
  rw [List.take_succ_eq_append_getElem h, List.flatten_append]
  simp [List.getD_eq_getElem?_getD, List.getElem?_eq_getElem h]
theorem f86_ok : FSpecOk Try.prog 86 wApart := by
  intro x n hp
  obtain ⟨ls, u⟩ := x; change List (List T48.D) at ls
  refine FnOk_intro [.one .w] Try.func86 rfl ?_
  intro hw C hC
  have hΓ := (noC_ok : CtrsOk Try.prog noC)
  refine ACode_ok (τ := tau) hΓ mixed _ _ _ ?_
  simp [Try.f86, wApart]
  intro hmx
  refine AWp_loop_ind hΓ mixed tau (fun i : Nat => ⟨[.sl (.sl T48) ls, .any, .bool false, .omap 0, .any, .any, .any, .any, .any, .sl (.sl T48) ls, .int .i64 ls.length, .int .i64 i] ++ List.replicate 16 .any, [.map T48 .bool (setM (K := T48) (ls.take i).flatten)]⟩) (fun i => ls.length - i) (fun i => i ≤ ls.length ∧ (ls.take i).flatten.Nodup) 0 [0] ?_ ?_ ?_
  · simp [hC, setM]
  · simp
  · rintro i ⟨hi, ht⟩
    simp
    refine ⟨fun hlt => ⟨hlt, ?_⟩, fun hge => ?_⟩
    · generalize hl : nth (.sl T48) ls i = l
      change List T48.D at l
      have hfl : (ls.take (i + 1)).flatten = (ls.take i).flatten ++ l := by rw [flatten_take hlt]; rw [← hl]; rfl
      intro hmx2
      refine AWp_loop_ind hΓ mixed tau (fun k : Nat => ⟨[.sl (.sl T48) ls, .any, .bool false, .omap 0, .any, .any, .any, .any, .any, .sl (.sl T48) ls, .int .i64 ls.length, .int .i64 i, .any, .any, .any, .sl T48 l, .int .i64 l.length, .int .i64 k] ++ List.replicate 10 .any, [.map T48 .bool (setM (K := T48) ((ls.take i).flatten ++ l.take k))]⟩) (fun k => l.length - k) (fun k => k ≤ l.length ∧ ((ls.take i).flatten ++ l.take k).Nodup) 0 [0] ?_ ?_ ?_
      · simp [hC]
      · simpa using ht
      · rintro k ⟨hk, hn⟩
        rcases hf : nth T48 l k with ⟨nm, pt⟩
        change List UInt8 at nm; change Int at pt
        simp [hf]
        have hk2 : l.take (k + 1) = l.take k ++ [(nm, pt)] ∨ ¬ k < l.length := by
          by_cases h : k < l.length
          · left; rw [take_nth (T := T48) h, hf]
          · exact .inr h
        refine ⟨fun hlk => ⟨hlk, fun hm => ?_, fun hm => ?_⟩, fun hge => ?_⟩
        · have hmem := (mget_set (K := T48) (fun a b => keq_pair)).1 hm
          have : ¬ ls.flatten.Nodup := by
            intro hnd
            have e : ls.flatten = (ls.take (i + 1)).flatten ++ (ls.drop (i + 1)).flatten := by rw [← List.flatten_append, List.take_append_drop]
            rw [e, hfl] at hnd
            have h2 := (List.nodup_append.1 hnd).1
            have e2 : (ls.take i).flatten ++ l = ((ls.take i).flatten ++ l.take k) ++ (nm, pt) :: l.drop (k + 1) := by
              rw [List.append_assoc]; congr 1
              have := split_nth (T := T48) hlk
              rw [hf] at this; exact this
            rw [e2] at h2
            exact not_nodup hmem h2
          simp [↓retQ_ret, ↓retQ_normal, this]
        · have hmem := (mget_set_no (K := T48) (fun a b => keq_pair)).1 hm
          have e3 := hk2.resolve_right (fun h => h hlk)
          have e4 : (ls.take i).flatten ++ l.take (k + 1) = ((ls.take i).flatten ++ l.take k) ++ [(nm, pt)] := by rw [e3, List.append_assoc]
          refine ⟨k + 1, ⟨by omega, by rw [e4]; exact nodup_snoc.2 ⟨hn, hmem⟩⟩, by omega, [0], by simp [hC], by decide, ⟨rfl, by rw [wrap64_id (by omega)]; rfl⟩, ?_⟩
          rw [e4]
          simp [leH, leO, mput_set (K := T48) (fun a b => keq_pair) hmem]
        · have e5 : l.take k = l := List.take_of_length_le hge
          rw [e5] at hn ⊢
          refine ⟨i + 1, ⟨by omega, by rw [hfl]; exact hn⟩, by omega, [0], by simp [hC], by decide, ⟨rfl, by rw [wrap64_id (by omega)]; rfl⟩, ?_⟩
          rw [hfl]; simp [leH, leO]
    · rw [List.take_of_length_le hge] at ht
      simp [↓retQ_ret, ↓retQ_normal, ht]
theorem f78_ok : FSpecOk Try.prog 78 wIn := by
  intro x n hp
  obtain ⟨l, ⟨q, m⟩, u⟩ := x; change List T48.D at l; change List UInt8 at q; change Int at m
  refine FnOk_intro [.one .w] Try.func78 rfl ?_
  intro hw C hC
  have hΓ := (noC_ok : CtrsOk Try.prog noC)
  refine ACode_ok (τ := tau) hΓ mixed _ _ _ ?_
  simp [Try.f78, wIn]
  refine AWp_loop_ind hΓ mixed tau (fun i : Nat => ⟨[.sl T48 l, .any, .any, .ptr 0 0, .bool false, .int .i64 i] ++ List.replicate 12 .any, [.cells 48 [.str q, .int .i64 m]]⟩) (fun i => l.length - i) (fun i => i ≤ l.length ∧ ∀ j, j < i → nth T48 l j ≠ (q, m)) 0 [0] ?_ ?_ ?_
  · simp [hC]
  · simp
  · rintro i ⟨hi, ht⟩
    rcases hf : nth T48 l i with ⟨nm, pt⟩
    change List UInt8 at nm; change Int at pt
    simp [hf]
    intro hmx
    refine ⟨fun hlt => ⟨by show Region.lexB .any _ = true; kernel_rfl, hlt, fun h1 h2 => ?_, fun h => ?_⟩, fun hge => ?_⟩
    · have : (q, m) ∈ l := by rw [← h1, ← h2, ← hf]; unfold nth; rw [List.getD_eq_getElem?_getD, List.getElem?_eq_getElem hlt]; exact List.getElem_mem hlt
      simp [↓retQ_ret, ↓retQ_normal, this]
    · refine ⟨i + 1, ⟨by omega, fun j hj => ?_⟩, by omega, [0], by simp [hC], by decide, ⟨rfl, by rw [wrap64_id (by omega)]; rfl⟩, by simp [leH, leO, leT, leA]⟩
      rcases Nat.lt_succ_iff_lt_or_eq.1 hj with e | e
      · exact ht j e
      · rw [e, hf]
        intro e2
        exact h (congrArg Prod.fst e2) (congrArg Prod.snd e2)
    · have : (q, m) ∉ l := by
        intro hm
        obtain ⟨j, hj, e⟩ := List.mem_iff_getElem.1 hm
        exact ht j (by omega) (by unfold nth; rw [List.getD_eq_getElem?_getD, List.getElem?_eq_getElem hj]; exact e)
      simp [↓retQ_ret, ↓retQ_normal, this]
theorem eq_nths {T : Ty} {l m : List T.D} (hl : l.length = m.length) (h : ∀ j, j < l.length → nth T l j = nth T m j) : l = m := by
  apply List.ext_getElem hl
  intro i h1 h2
  have := h i h1
  unfold nth at this
  rw [List.getD_eq_getElem?_getD, List.getD_eq_getElem?_getD, List.getElem?_eq_getElem h1, List.getElem?_eq_getElem h2] at this
  exact this
theorem f89_ok : FSpecOk Try.prog 89 wEqS := by
  intro x n hp
  obtain ⟨l, m, u⟩ := x; change List T48.D at l m
  refine FnOk_intro [.one .w] Try.func89 rfl ?_
  intro hw C hC
  have hΓ := (noC_ok : CtrsOk Try.prog noC)
  refine ACode_ok (τ := tau) hΓ mixed _ _ _ ?_
  simp [Try.f89, wEqS]
  refine fun hm1 hm2 => ⟨fun h => ?_, fun hlen => ?_⟩
  · have : ¬ l = m := fun e => h (by rw [e])
    simp [↓retQ_ret, ↓retQ_normal, this]
  have hlen : l.length = m.length := by omega
  intro _
  refine AWp_loop_ind hΓ mixed tau (fun i : Nat => ⟨[.sl T48 l, .sl T48 m, .any, .any, .bool false, .any, .any, .any, .any, .any, .any, .sl T48 l, .int .i64 l.length, .int .i64 i] ++ List.replicate 12 .any, []⟩) (fun i => l.length - i) (fun i => i ≤ l.length ∧ ∀ j, j < i → nth T48 l j = nth T48 m j) 0 [] ?_ ?_ ?_
  · simp [hC]
  · simp
  · rintro i ⟨hi, ht⟩
    rcases hf : nth T48 l i with ⟨a, b⟩
    rcases hg : nth T48 m i with ⟨c, d⟩
    change List UInt8 at a c; change Int at b d
    simp [hf, hg]
    repeat' (first | with_reducible refine And.intro ?_ ?_ | intro _)
    all_goals first
      | (show Region.lexB .any _ = true; kernel_rfl)
      | assumption
      | omega
      | (rename_i h
         have : ¬ l = m := fun e => by
           subst e
           rw [hf] at hg
           have e1 : a = c := congrArg Prod.fst hg
           have e2 : b = d := congrArg Prod.snd hg
           rcases h with h | h
           · exact h e1
           · exact h e2
         simp [↓retQ_ret, ↓retQ_normal, this]; done)
      | (have : l = m := eq_nths hlen fun j hj => ht j (by omega)
         simp [↓retQ_ret, ↓retQ_normal, this]; done)
      | (refine ⟨i + 1, ⟨by omega, fun j hj => ?_⟩, by omega, [], by simp [hC], by decide, by rw [wrap64_id (by omega)]; rfl, by simp [leH]⟩
         rcases Nat.lt_succ_iff_lt_or_eq.1 hj with e | e
         · exact ht j e
         · rw [e, hf, hg]; rename_i h h2; first | rw [h, h2] | (rw [h.1, h.2]))
theorem f88_ok : FSpecOk Try.prog 88 wEqS := by
  intro x n hp
  obtain ⟨l, m, u⟩ := x; change List T48.D at l m
  refine FnOk_intro [.one .w] Try.func88 rfl ?_
  intro hw C hC
  have hΓ := (noC_ok : CtrsOk Try.prog noC)
  refine ACode_ok (τ := tau) hΓ mixed _ _ _ ?_
  simp [Try.f88, wEqS]
  refine fun hm1 hm2 => ⟨fun h => ?_, fun hlen => ?_⟩
  · have : ¬ l = m := fun e => h (by rw [e])
    simp [↓retQ_ret, ↓retQ_normal, this]
  have hlen : l.length = m.length := by omega
  refine AWp_loop_ind hΓ mixed tau (fun i : Nat => ⟨[.sl T48 l, .sl T48 m, .any, .any, .bool false, .int .i64 i] ++ List.replicate 20 .any, []⟩) (fun i => l.length - i) (fun i => i ≤ l.length ∧ ∀ j, j < i → nth T48 l j = nth T48 m j) 0 [] ?_ ?_ ?_
  · simp [hC]
  · simp
  · rintro i ⟨hi, ht⟩
    rcases hf : nth T48 l i with ⟨a, b⟩
    rcases hg : nth T48 m i with ⟨c, d⟩
    change List UInt8 at a c; change Int at b d
    simp [hf, hg]
    repeat' (first | with_reducible refine And.intro ?_ ?_ | intro _)
    all_goals first
      | (show Region.lexB .any _ = true; kernel_rfl)
      | assumption
      | omega
      | (rename_i h
         have : ¬ l = m := fun e => by
           subst e
           rw [hf] at hg
           have e1 : a = c := congrArg Prod.fst hg
           have e2 : b = d := congrArg Prod.snd hg
           rcases h with h | h
           · exact h e1
           · exact h e2
         simp [↓retQ_ret, ↓retQ_normal, this]; done)
      | (have : l = m := eq_nths hlen fun j hj => ht j (by omega)
         simp [↓retQ_ret, ↓retQ_normal, this]; done)
      | (refine ⟨i + 1, ⟨by omega, fun j hj => ?_⟩, by omega, [], by simp [hC], by decide, by rw [wrap64_id (by omega)]; rfl, by simp [leH]⟩
         rcases Nat.lt_succ_iff_lt_or_eq.1 hj with e | e
         · exact ht j e
         · rw [e, hf, hg]; rename_i h h2; first | rw [h, h2] | (rw [h.1, h.2]))
end Go.Proofs.Ytfinneebcfcdjaa
