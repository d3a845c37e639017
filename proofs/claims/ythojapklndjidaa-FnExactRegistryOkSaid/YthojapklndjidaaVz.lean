/- Schemas: the contracts of matches and Matches. -/
import Derived.Test.YthojapklndjidaaVy
namespace Go.Proofs.Ythojapklndjidaa
open Go Go.RowKit
set_option linter.all false
set_option pp.deepTerms true
set_option pp.maxSteps 200000
def matchesL (s w : T32.D) : List Int := if schemaB s = true ∧ schemaB w = true then matchL s.2 w.2 else []
def wM : Spec [(true, T32), (true, T32)] := ⟨fun _ => True, fun x n => .osl n (matchesL x.1 x.2.1).length, fun x => [.arr (.int .i64) 3 (matchesL x.1 x.2.1)]⟩
def wMi : Spec [(true, T32), (true, T32)] := ⟨fun x => schemaB x.1 = true ∧ schemaB x.2.1 = true, fun x n => .osl n (matchL x.1.2 x.2.1.2).length, fun x => [.arr (.int .i64) 3 (matchL x.1.2 x.2.1.2)]⟩
theorem schema_len {s : T32.D} (h : schemaB s = true) : s.2.length ≤ 20 := by
  simp only [schemaB, Bool.and_eq_true] at h
  have := h.1.1.1.2
  simp [inB] at this
  omega
theorem schema_was {s : T32.D} (h : schemaB s = true) {i : Nat} (hi : i < s.2.length) : (nth T73 s.2 i).2.2.2.2.1.length ≤ 4 := by
  simp only [schemaB, Bool.and_eq_true] at h
  exact fieldB1_was ((all_nth (T := T73)).1 h.1.1.2 i hi)
theorem schema_names {s : T32.D} (h : schemaB s = true) : (s.2.map (·.1)).Nodup := by
  simp only [schemaB, Bool.and_eq_true, decide_eq_true_eq] at h
  have h := h.2
  have key : ∀ fs : List T73.D, (fs.map (·.1)).Sublist (fs.flatMap namesF) := by
    intro fs
    induction fs with
    | nil => exact List.Sublist.refl _
    | cons f fs ih =>
      rw [List.map_cons, List.flatMap_cons]
      show (f.1 :: _).Sublist ((f.1 :: f.2.2.2.2.1) ++ _)
      rw [List.cons_append]
      exact (ih.trans (List.sublist_append_right _ _)).cons₂ _
  exact h.sublist (key s.2)
set_option maxHeartbeats 4000000 in
set_option maxRecDepth 100000 in
theorem f115_ok : FSpecOk Try.prog 115 wM := by
  intro x n hp
  obtain ⟨⟨nm, fs⟩, ⟨nw, ws⟩, u⟩ := x; change List UInt8 at nm nw; change List T73.D at fs ws
  refine FnOk_intro [.one (.own (.int .i64) 3)] Try.func115 rfl ?_
  intro hw C hC
  have hΓ := CtrOk.add f45_ok rfl (CtrOk.add f123_ok rfl (noC_ok : CtrsOk Try.prog noC))
  refine ACode_ok (τ := tau) hΓ mixed _ _ _ ?_
  simp [Try.f115, wM, wS, w83]
  refine ⟨fun h => ?_, fun h1 h2 => ?_⟩
  · have : matchesL (nm, fs) (nw, ws) = [] := by unfold matchesL; rw [if_neg]; rintro ⟨a, b⟩; simp [a, b] at h
    simp [↓retQ_ret, this, expVs, expV, expC]
  have hlen := schema_len h1
  have hm : matchesL (nm, fs) (nw, ws) = fs.map (atF ws) := by unfold matchesL; rw [if_pos ⟨h1, h2⟩]; rfl
  refine AWp_loop_ind hΓ mixed tau (fun i : Nat => ⟨[.any, .any, .ptr 0 0, .ptr 1 0, .any, .osl 2 i, .int .i64 i] ++ List.replicate 52 .any, [.cells 32 [.str nm, .sl T73 fs], .cells 32 [.str nw, .sl T73 ws], .arr (.int .i64) 3 ((fs.map (atF ws)).take i)]⟩) (fun i => fs.length - i) (fun i => i ≤ fs.length) 0 [0, 1, 2] ?_ ?_ ?_
  · simp [hC]
  · simp
  · intro i hi
    rcases hf : nth T73 fs i with ⟨fn, fk, fl, fm, fwas, fx, vk, vn, vt, vl, vi⟩
    change List UInt8 at fn; change List (List UInt8) at fwas
    simp [hf, w83]
    intro _
    refine ⟨fun hlt => ⟨hlt, ?_⟩, fun hge => ?_⟩
    · have ha : atF ws (nth T73 fs i) = atL ws (fn :: fwas) := by rw [hf]; rfl
      have hw4 := schema_was h1 (i := i) hlt
      rw [show nth T73 (nm, fs).2 i = nth T73 fs i from rfl, hf] at hw4
      refine AWp_loop_ind hΓ mixed tau (fun k : Nat => ⟨[.any, .any, .ptr 0 0, .ptr 1 0, .any, .osl 2 i, .int .i64 i, .ptr 3 0, .int .i64 (atL ws (fn :: fwas.take k)), .int .i64 k] ++ List.replicate 49 .any, [.cells 32 [.str nm, .sl T73 fs], .cells 32 [.str nw, .sl T73 ws], .arr (.int .i64) 3 ((fs.map (atF ws)).take i), .cells 73 [.str fn, .int .i64 fk, .bool fl, .bool fm, .sl .str fwas, .bool fx, .int .i64 vk, .int .i64 vn, .str vt, .bool vl, .sl T76 vi]]⟩) (fun k => fwas.length - k) (fun k => k ≤ fwas.length) 0 [0, 1, 2, 3] ?_ ?_ ?_
      · simp [hC, atL_one]
      · simp
      · intro k hk
        simp [w83]
        intro _
        have hlen' : fs.length ≤ 20 := hlen
        refine ⟨fun hlk hneg => ⟨by show Region.lexB .any _ = true; kernel_rfl, hlk, k + 1, by omega, by omega, [0, 1, 2, 3], by simp [hC], by simp, ⟨by simp, by simp, by simp, by simp, ?_, wrap64_id (by omega)⟩, by simp⟩, fun hex => ⟨⟨by omega, by omega, by omega⟩, i + 1, by omega, by omega, [0, 1, 5], by simp [hC], by simp, ⟨by simp, by simp, ⟨rfl, by omega⟩, wrap64_id (by omega)⟩, ?_⟩⟩
        · have e : fwas.take (k + 1) = fwas.take k ++ [nth Ty.str fwas k] := take_nth (T := .str) hlk
          rw [e, ← List.cons_append, atL_skip hneg, atL_one]
        · have e : atL ws (fn :: fwas.take k) = atF ws (nth T73 fs i) := by
            rw [ha]
            by_cases hlk : k < fwas.length
            · rw [show fn :: fwas = (fn :: fwas.take k) ++ fwas.drop k by simp, atL_ext (hex hlk)]
            · rw [List.take_of_length_le (by omega)]
          have e2 := take_map (g := atF ws) (rs := fs) hlt
          rw [e]
          simp [e2, List.take_take]
    · have hie : i = fs.length := by omega
      subst hie
      have e : List.take fs.length (List.map (atF ws) fs) = List.map (atF ws) fs := List.take_of_length_le (by simp)
      simp [↓retQ_ret, hm, expVs, expV, expC, e]
set_option maxHeartbeats 4000000 in
set_option maxRecDepth 100000 in
theorem f119_ok : FSpecOk Try.prog 119 wMi := by
  intro x n hp
  obtain ⟨⟨nm, fs⟩, ⟨nw, ws⟩, u⟩ := x; change List UInt8 at nm nw; change List T73.D at fs ws
  obtain ⟨h1, h2⟩ : schemaB (nm, fs) = true ∧ schemaB (nw, ws) = true := hp
  have hnn := schema_names h2
  have hlen := schema_len h1
  refine FnOk_intro [.one (.own (.int .i64) 3)] Try.func119 rfl ?_
  intro hw C hC
  have hΓ := (noC_ok : CtrsOk Try.prog noC)
  refine ACode_ok (τ := tau) hΓ mixed _ _ _ ?_
  simp [Try.f119, wMi]
  intro hmw
  refine AWp_loop_ind hΓ mixed tau (fun i : Nat => ⟨[.any, .any, .ptr 0 0, .ptr 1 0, .any, .omap 2] ++ List.replicate 12 .any ++ [.sl T73 ws, .int .i64 ws.length, .int .i64 i] ++ List.replicate 42 .any, [.cells 32 [.str nm, .sl T73 fs], .cells 32 [.str nw, .sl T73 ws], .map .str (.int .i64) (placeM ws (List.range i))]⟩) (fun i => ws.length - i) (fun i => i ≤ ws.length) 0 [0, 1, 2] ?_ ?_ ?_
  · simp [hC]; rfl
  · simp
  · intro i hi
    rcases hf : nth T73 ws i with ⟨fn, fk, fl, fm, fwas, fx, vk, vn, vt, vl, vi⟩
    change List UInt8 at fn; change List (List UInt8) at fwas
    simp [hf]
    have hz : (nth T73 ws i).1 = fn := by rw [hf]
    refine ⟨fun hlt => ⟨hlt, i + 1, by omega, by omega, [0, 1, 2], by simp [hC], by simp, ⟨by simp, by simp, by simp, wrap64_id (by omega)⟩, ?_⟩, fun hge hmf => ?_⟩
    · have := place_put hlt hnn
      rw [hz] at this
      simp [this]
    · have hie : i = ws.length := by omega
      subst hie
      clear hf hz
      refine AWp_nil 8 (.int .i64) 3 rfl ?_
      refine AWp_loop_ind hΓ mixed tau (fun i : Nat => ⟨[.any, .any, .ptr 0 0, .ptr 1 0, .any, .omap 2, .any, .any, .osl 3 i] ++ List.replicate 22 .any ++ [.sl T73 fs, .int .i64 fs.length, .int .i64 i] ++ List.replicate 29 .any, [.cells 32 [.str nm, .sl T73 fs], .cells 32 [.str nw, .sl T73 ws], .map .str (.int .i64) (placeM ws (List.range ws.length)), .arr (.int .i64) 3 ((fs.map (atF ws)).take i)]⟩) (fun i => fs.length - i) (fun i => i ≤ fs.length) 0 [0, 1, 2, 3] ?_ ?_ ?_
      · simp [hC]
      · simp
      · intro i hi
        rcases hf : nth T73 fs i with ⟨fn, fk, fl, fm, fwas, fx, vk, vn, vt, vl, vi⟩
        change List UInt8 at fn; change List (List UInt8) at fwas
        simp [hf]
        refine ⟨fun hlt => ?_, fun hge => ?_⟩
        · have ha : atF ws (nth T73 fs i) = atL ws (fn :: fwas) := by rw [hf]; rfl
          have hw4 := schema_was h1 (i := i) hlt
          rw [show nth T73 (nm, fs).2 i = nth T73 fs i from rfl, hf] at hw4
          have hw4 : fwas.length ≤ 4 := hw4
          refine ⟨hlt, ⟨by omega, by omega⟩, fun hl => ?_⟩
          refine AWp_loop_ind hΓ mixed tau (fun k : Nat => ⟨[.any, .any, .ptr 0 0, .ptr 1 0, .any, .omap 2, .any, .any, .osl 3 i, .any, .any, .int .i64 (-1)] ++ List.replicate 19 .any ++ [.sl T73 fs, .int .i64 fs.length, .int .i64 i] ++ List.replicate 8 .any ++ [.osl 4 (fwas.length + 1), .int .i64 (fwas.length + 1), .int .i64 k] ++ List.replicate 18 .any, [.cells 32 [.str nm, .sl T73 fs], .cells 32 [.str nw, .sl T73 ws], .map .str (.int .i64) (placeM ws (List.range ws.length)), .arr (.int .i64) 3 ((fs.map (atF ws)).take i), .arr .str 9 (fn :: fwas)]⟩) (fun k => fwas.length + 1 - k) (fun k => k ≤ fwas.length + 1 ∧ atL ws ((fn :: fwas).take k) < 0) 0 [0, 1, 2, 3, 6] ?_ ?_ ?_
          · simp [hC]
          · simp [atL]
          · rintro k ⟨hk, hneg⟩
            generalize hx : nth Ty.str (fn :: fwas) k = x
            simp [hx]
            obtain ⟨q1, q2⟩ := place_has (ws := ws) (q := x)
            have hlen' : fs.length ≤ 20 := hlen
            have fin : ∀ v, v = atF ws (nth T73 fs i) → List.take i (List.take i (List.map (atF ws) fs)) ++ [v] = List.take (i + 1) (List.map (atF ws) fs) := fun v hv => by
              rw [take_map (g := atF ws) (rs := fs) hlt, hv, List.take_take]; simp
            have hsp : k < fwas.length + 1 → fn :: fwas = (fn :: fwas).take k ++ x :: (fn :: fwas).drop (k + 1) := fun h => by
              have := split_nth (T := .str) (l := fn :: fwas) (i := k) (by simpa using h)
              rwa [hx] at this
            refine ⟨fun hlk => ⟨hlk, by omega, fun hm => ⟨⟨by omega, by omega, by omega⟩, i + 1, by omega, by omega, [0, 1, 2, 6], by simp [hC], by simp, ⟨by simp, by simp, by simp, ⟨rfl, by omega⟩, wrap64_id (by omega)⟩, ?_⟩, fun hm => ⟨k + 1, ⟨by omega, ?_⟩, by omega, [0, 1, 2, 3, 4], by simp [hC], by simp, ⟨by simp, by simp, by simp, by simp, by simp, wrap64_id (by omega)⟩, by simp⟩⟩, fun hge => ⟨⟨by omega, by omega, by omega⟩, i + 1, by omega, by omega, [0, 1, 2, 6], by simp [hC], by simp, ⟨by simp, by simp, by simp, ⟨rfl, by omega⟩, wrap64_id (by omega)⟩, ?_⟩⟩
            · rw [hm] at q1
              have q1 : 0 ≤ findZ ws x := of_decide_eq_true q1.symm
              have := fin _ (show mget (K := .str) (V := .int .i64) (placeM ws (List.range ws.length)) x 0 = atF ws (nth T73 fs i) by
                rw [q2 q1, ha, hsp (by omega), atL_skip hneg]
                show _ = if findZ ws x < 0 then _ else _
                rw [if_neg (by omega)])
              simp [this]
            · rw [hm] at q1
              have q1 : ¬ 0 ≤ findZ ws x := of_decide_eq_false q1.symm
              have e : (fn :: fwas).take (k + 1) = (fn :: fwas).take k ++ [x] := by rw [take_nth (T := .str) (by simp; omega), hx]
              rw [e, atL_skip hneg, atL_one]; omega
            · have e : (fn :: fwas).take k = fn :: fwas := List.take_of_length_le (by simp; omega)
              rw [e] at hneg
              have := fin (-1) (by rw [ha]; have := (atL_lt (ws := ws) (l := fn :: fwas)).1; omega)
              simp [this]
        · have hie : i = fs.length := by omega
          subst hie
          have e : List.take fs.length (List.map (atF ws) fs) = List.map (atF ws) fs := List.take_of_length_le (by simp)
          simp [↓retQ_ret, matchL, expVs, expV, expC, e]
end Go.Proofs.Ythojapklndjidaa
