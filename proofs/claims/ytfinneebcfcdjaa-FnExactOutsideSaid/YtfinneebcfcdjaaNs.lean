/- Sources: the contracts of SourcesOk. -/
import Derived.Test.YtfinneebcfcdjaaNb
namespace Go.Proofs.Ytfinneebcfcdjaa
open Go Go.RowKit
set_option linter.all false
set_option pp.deepTerms true
set_option pp.maxSteps 200000
def srcB (s : T142.D) : Bool := nameB s.1 && inB s.2.2.length 1 12 && colsB s.2.2
def srcsB (l : List T142.D) : Bool := decide ((l.length : Int) ≤ 10) && l.all srcB && decide ((l.map (·.1) : SL)).Nodup
def wSrc : Spec [(false, .sl T142)] := ⟨fun _ => True, fun x _ => .bool (srcsB x.1), fun _ => []⟩
theorem map_nth {l : List T142.D} {i : Nat} (h : i < l.length) : nth Ty.str (l.map (·.1)) i = (nth T142 l i).1 := by
  unfold nth
  rw [List.getD_eq_getElem?_getD, List.getD_eq_getElem?_getD, List.getElem?_map, List.getElem?_eq_getElem h]; rfl
theorem srcsB_no {l : List T142.D} {i : Nat} (hi : i < l.length) (h : srcB (nth T142 l i) = false) : srcsB l = false := by
  have := all_nth_no (T := T142) (p := srcB) hi h
  unfold srcsB; simp [this]
theorem srcsB_eq {l : List T142.D} (h : ∀ j, j < l.length → srcB (nth T142 l j) = true) : srcsB l = (decide ((l.length : Int) ≤ 10) && decide ((l.map (·.1) : SL)).Nodup) := by
  have := (all_nth (T := T142) (p := srcB)).2 h
  unfold srcsB; rw [this]; simp
theorem srcsB_dup {l : List T142.D} {k i : Nat} (hk : k < i) (hi : i < l.length) (h : (nth T142 l k).1 = (nth T142 l i).1) : srcsB l = false := by
  have : ¬ (l.map (·.1) : SL).Nodup := by
    rw [split_nth (T := .str) (l := l.map (·.1)) (i := i) (by simpa using hi), map_nth hi]
    refine not_nodup ((mem_take_nth (by simp; omega)).2 ⟨k, hk, ?_⟩)
    rw [map_nth (by omega)]; exact h
  unfold srcsB; simp [this]
theorem nth_take {l : List T142.D} {k i : Nat} (hk : k < i) (hi : i ≤ l.length) : nth T142 (l.take i) k = nth T142 l k := by
  unfold nth
  rw [List.getD_eq_getElem?_getD, List.getD_eq_getElem?_getD, List.getElem?_take, if_pos hk]
set_option maxHeartbeats 4000000 in
set_option maxRecDepth 100000 in
theorem f95_ok : FSpecOk Try.prog 95 wSrc := by
  intro x n hp
  obtain ⟨l, u⟩ := x; change List T142.D at l
  refine FnOk_intro [.one .w] Try.func95 rfl ?_
  intro hw C hC
  have hΓ := CtrOk.add f75_ok rfl (CtrOk.add f65_ok rfl (CtrOk.add f98_ok rfl (noC_ok : CtrsOk Try.prog noC)))
  refine ACode_ok (τ := tau) hΓ mixed _ _ _ ?_
  simp [Try.f95, wSrc, wN, wB, wDif]
  intro hmx
  refine ⟨fun h => by have : srcsB l = false := by { unfold srcsB; simp; omega }
                      simp [↓retQ_ret, this], fun h10 => ?_⟩
  refine AWp_loop_ind hΓ mixed tau (fun i : Nat => ⟨[.sl T142 l, .any, .bool false, .osl 0 i, .int .i64 i] ++ List.replicate 54 .any, [.arr .str 9 ((l.map (·.1)).take i)]⟩) (fun i => l.length - i) (fun i => i ≤ l.length ∧ ∀ j, j < i → srcB (nth T142 l j) = true) 0 [0] ?_ ?_ ?_
  · simp [hC]
  · simp
  · rintro i ⟨hi, ht⟩
    rcases hs : nth T142 l i with ⟨nm, tb, cols⟩
    change List UInt8 at nm; change List (List UInt8) at cols
    simp [wN, wB, wDif, hs]
    intro _
    refine ⟨fun hlt => ⟨hlt, fun _ => ⟨fun hb => ?_, fun g1 g2 g3 => ?_⟩⟩, fun hge => ⟨by omega, ?_⟩⟩
    · have h : srcB (nth T142 l i) = false := by
        rw [hs]; unfold srcB colsB
        rcases hb with (h | h) | h <;> simp [h]
      have := srcsB_no hlt h
      simp [↓retQ_ret, this]
    · refine AWp_loop_ind hΓ mixed tau (fun k : Nat => ⟨[.sl T142 l, .any, .bool false, .osl 0 i, .int .i64 i, .ptr 1 0, .int .i64 k] ++ List.replicate 52 .any, [.arr .str 9 ((l.map (·.1)).take i), .cells 142 [.str nm, .bool tb, .sl .str cols]]⟩) (fun k => cols.length - k) (fun k => k ≤ cols.length ∧ ∀ j, j < k → nameB (nth Ty.str cols j) = true) 0 [0, 1] ?_ ?_ ?_
      · simp [hC]
      · simp
      · rintro k ⟨hk, htk⟩
        simp [wN]
        intro _
        refine ⟨fun hlk => ⟨hlk, fun hb => ?_, fun hb => ?_⟩, fun hge => ⟨⟨by omega, by omega, by omega⟩, i + 1, ⟨by omega, fun j hj => ?_⟩, by omega, [3], by simp [hC], by simp, ⟨⟨rfl, by omega⟩, wrap64_id (by omega)⟩, ?_⟩⟩
        · have h : srcB (nth T142 l i) = false := by
            have h := all_nth_no (T := Ty.str) (p := nameB) hlk hb
            rw [hs]; unfold srcB colsB
            simp [h]
          have := srcsB_no hlt h
          simp [↓retQ_ret, this]
        · refine ⟨k + 1, ⟨by omega, fun j hj => ?_⟩, by omega, [0, 1], by simp [hC], by simp, ⟨by simp, by simp, wrap64_id (by omega)⟩, by simp⟩
          rcases Nat.lt_succ_iff_lt_or_eq.1 hj with h | h
          · exact htk j h
          · rw [h]; exact hb
        · rcases Nat.lt_succ_iff_lt_or_eq.1 hj with h | h
          · exact ht j h
          · have h2 : cols.all nameB = true := (all_nth (T := Ty.str)).2 fun j hj => htk j (by omega)
            rw [h, hs]; unfold srcB colsB
            simp [g1, g2, g3, h2]
        · have e : List.take (i + 1) (List.map (fun x : T142.D => x.1) l) = List.take i (List.map (fun x : T142.D => x.1) l) ++ [nm] := by
            have := take_nth (T := Ty.str) (l := l.map (·.1)) (i := i) (by simpa using hlt)
            rw [map_nth hlt, hs] at this
            exact this
          simp [e, List.take_take]
    · have := srcsB_eq fun j hj => ht j (by omega)
      have e : List.take i (List.map (fun x : T142.D => x.1) l) = List.map (fun x : T142.D => x.1) l := List.take_of_length_le (by simp; omega)
      simp [↓retQ_ret, this, h10, e]
set_option maxHeartbeats 4000000 in
set_option maxRecDepth 100000 in
theorem f104_ok : FSpecOk Try.prog 104 wSrc := by
  intro x n hp
  obtain ⟨l, u⟩ := x; change List T142.D at l
  refine FnOk_intro [.one .w] Try.func104 rfl ?_
  intro hw C hC
  have hΓ := CtrOk.add f83_ok rfl (CtrOk.add f127_ok rfl (noC_ok : CtrsOk Try.prog noC))
  refine ACode_ok (τ := tau) hΓ mixed _ _ _ ?_
  simp [Try.f104, wSrc, wN, wCols]
  intro hmx
  refine AWp_loop_ind hΓ mixed tau (fun i : Nat => ⟨[.sl T142 l, .any, .bool false, .any, .any, .any, .any, .sl T142 l, .int .i64 l.length, .int .i64 i] ++ List.replicate 38 .any, []⟩) (fun i => l.length - i) (fun i => i ≤ l.length ∧ (∀ j, j < i → srcB (nth T142 l j) = true) ∧ ((l.map (·.1) : SL).take i).Nodup) 0 [] ?_ ?_ ?_
  · simp [hC]
  · simp
  · rintro i ⟨hi, ht, hn⟩
    rcases hs : nth T142 l i with ⟨nm, tb, cols⟩
    change List UInt8 at nm; change List (List UInt8) at cols
    simp [wN, wCols, hs]
    refine ⟨fun hlt => ⟨hlt, fun _ => ⟨fun hb => ?_, fun g1 g2 g3 g4 => ⟨hi, fun _ => ?_⟩⟩⟩, fun hge _ => ?_⟩
    · have h : srcB (nth T142 l i) = false := by
        rw [hs]; unfold srcB
        rcases hb with (h | h) | h | h
        · simp [h]
        · simp [h, inB]
        · simp [h]
        · have : inB cols.length 1 12 = false := by unfold inB; simp; omega
          simp [this]
      have := srcsB_no hlt h
      simp [↓retQ_ret, this]
    · have hok : srcB (nth T142 l i) = true := by
        rw [hs]; unfold srcB
        have : inB cols.length 1 12 = true := by
          unfold inB
          have : 0 < cols.length := List.length_pos_iff.2 g2
          simp; omega
        simp [g1, g3, this]
      refine AWp_loop_ind hΓ mixed tau (fun k : Nat => ⟨[.sl T142 l, .any, .bool false, .any, .ptr 0 0, .any, .any, .sl T142 l, .int .i64 l.length, .int .i64 i] ++ List.replicate 22 .any ++ [.sl T142 (l.take i), .int .i64 i, .int .i64 k] ++ List.replicate 13 .any, [.cells 142 [.str nm, .bool tb, .sl .str cols]]⟩) (fun k => i - k) (fun k => k ≤ i ∧ ∀ b, b < k → (nth T142 l b).1 ≠ nm) 0 [0] ?_ ?_ ?_
      · simp [hC]; omega
      · simp
      · rintro k ⟨hk, htk⟩
        rcases hks : nth T142 (l.take i) k with ⟨nm', tb', cols'⟩
        change List UInt8 at nm'
        simp [hks]
        have hkn : k < i → (nth T142 l k).1 = nm' := fun h => by rw [← nth_take h hi, hks]
        have hin : (nth T142 l i).1 = nm := by rw [hs]
        refine ⟨fun hlk => ⟨by omega, fun he => ?_, fun hne => ?_⟩, fun hge => ?_⟩
        · have := srcsB_dup hlk hlt (by rw [hkn hlk, hin]; exact he)
          simp [↓retQ_ret, this]
        · refine ⟨k + 1, ⟨by omega, fun b hb => ?_⟩, by omega, [0], by simp [hC], by simp, ⟨by simp, wrap64_id (by omega)⟩, by simp⟩
          rcases Nat.lt_succ_iff_lt_or_eq.1 hb with h | h
          · exact htk b h
          · rw [h, hkn hlk]; exact hne
        · refine ⟨i + 1, ⟨by omega, fun j hj => ?_, ?_⟩, by omega, [], by simp [hC], by simp, wrap64_id (by omega), by simp⟩
          · rcases Nat.lt_succ_iff_lt_or_eq.1 hj with h | h
            · exact ht j h
            · rw [h]; exact hok
          · have := take_nth (T := Ty.str) (l := l.map (·.1)) (i := i) (by simpa using hlt)
            rw [map_nth hlt, hs] at this
            rw [show List.take (i + 1) (List.map (fun x : T142.D => x.1) l) = _ from this]
            refine nodup_snoc.2 ⟨hn, fun hm => ?_⟩
            obtain ⟨b, hb, he⟩ := (mem_take_nth (by simp; omega)).1 hm
            rw [map_nth (by omega)] at he
            exact htk b (by omega) he
    · have := srcsB_eq fun j hj => ht j (by omega)
      have e : List.take i (List.map (fun x : T142.D => x.1) l) = List.map (fun x : T142.D => x.1) l := List.take_of_length_le (by simp; omega)
      rw [e] at hn
      simp [↓retQ_ret, this, hn]
end Go.Proofs.Ytfinneebcfcdjaa
