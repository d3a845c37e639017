/- Rows: the contracts of Resolve of the program and of the reference. -/
import Derived.Test.YtjkdbippldbcmaaWa
import Derived.Test.YtjkdbippldbcmaaXa
namespace Go.Proofs.Ytjkdbippldbcmaa
open Go Go.RowKit
set_option linter.all false
set_option maxRecDepth 100000
set_option maxHeartbeats 8000000
/-- A slice that is nil, as an array of the call's own that holds nothing. -/
theorem AWp_nilD {P : Program} {C : Ctx} {c : Code} {S : St} {Q : AExit → St → Prop} (d : Nat) (D : DT) (e : TypeId) (hd : S.tmps[d]? = some .nilsl) (h : AWp P C c ⟨S.tmps.set d (.osl S.heap.length 0), S.heap ++ [.deep D e []]⟩ Q) : AWp P C c S Q := by
  intro Φ L a w hc
  refine h Φ (L ++ [none]) a w ⟨hc.defers, by simp [hc.size], fun i c v hci hv => ?_, ?_⟩
  · have hL : ∀ (i : Nat) x, L[i]? = some x → (L ++ [none])[i]? = some x := fun i x hx => by rw [List.getElem?_append_left (List.getElem?_eq_some_iff.1 hx).1]; exact hx
    have hci : (S.tmps.set d (.osl S.heap.length 0))[i]? = some c := hci
    by_cases hid : d = i
    · subst hid
      rw [List.getElem?_set_self (List.getElem?_eq_some_iff.1 hd).1] at hci
      simp only [Option.some.injEq] at hci; subst hci
      have := hc.tmps d _ v hd hv
      cases this
      exact .oslnil _ _ (by rw [← hc.inv.len]; simp) rfl
    · rw [List.getElem?_set_ne hid] at hci
      exact (hc.tmps i c v hci hv).mono (More.refl _) hL
  · obtain ⟨F, hF⟩ := hc.inv.deep
    refine ⟨hc.inv.toInv0.new (l := none) (o := .deep D e []) ?_ (fun g cap he => by cases he), Deep.newF hc.inv.len hF (l := none) (o := .deep D e []) (G := []) (fun _ => ⟨[], World.ownsRow_nil w 0 e D.ty.size, rfl, rfl⟩) List.nodup_nil (by simp) (fun g cap he => by cases he)⟩
    exact ⟨[], World.ownsRow_nil w 0 e D.ty.size⟩
def pickV (f : T39.D) (at_ : Int) (row : List T29.D) : T29.D :=
  if 0 ≤ at_ then (if (nth T29 row at_.toNat).1 = 0 then nth T29 row at_.toNat else (f.2.1, (nth T29 row at_.toNat).2)) else f.2.2.2.2.2.2
def resL (fs ws : List T39.D) (row : List T29.D) : List T29.D := fs.map fun f => pickV f (atF ws f) row
def resB (s w : T50.D) (row : List T29.D) : Bool := canB s w && rowB w row
def resV (s w : T50.D) (row : List T29.D) : List T29.D := if resB s w row = true then resL s.2 w.2 row else []
theorem resL_take {fs ws : List T39.D} {row : List T29.D} {i : Nat} (h : i < fs.length) : (resL fs ws row).take (i + 1) = (resL fs ws row).take i ++ [pickV (nth T39 fs i) (atF ws (nth T39 fs i)) row] := by
  unfold resL
  rw [← List.map_take, ← List.map_take, take_nth (T := T39) h, List.map_append]; rfl
theorem value_items {v : T29.D} (h : valueB v = true) : v.2.2.2.2.length ≤ 30 := by
  unfold valueB at h
  split at h
  · simp only [zeroB, Bool.and_eq_true, decide_eq_true_eq] at h
    rw [h.2]; simp
  · simp only [Bool.and_eq_true] at h
    have h := h.2
    split at h
    · simp only [Bool.and_eq_true, decide_eq_true_eq] at h
      exact h.1.2
    · simp only [Bool.and_eq_true, decide_eq_true_eq] at h
      rw [h.1]; simp
theorem valueOf_items {f : T39.D} {v : T29.D} (h : valueOfB f v = true) : v.2.2.2.2.length ≤ 30 := by
  unfold valueOfB at h
  simp only [Bool.and_eq_true] at h
  exact value_items h.1.2
theorem row_items {w : T50.D} {row : List T29.D} (h : rowB w row = true) {i : Nat} (hi : i < row.length) : (nth T29 row i).2.2.2.2.length ≤ 30 := by
  simp only [rowB, Bool.and_eq_true] at h
  exact valueOf_items (range_all.1 h.2 i hi)
theorem row_len {w : T50.D} {row : List T29.D} (h : rowB w row = true) : row.length = w.2.length := by
  simp only [rowB, Bool.and_eq_true, decide_eq_true_eq] at h
  exact h.1.2
theorem field_items {s : T50.D} (h : schemaB s = true) {i : Nat} (hi : i < s.2.length) : (nth T39 s.2 i).2.2.2.2.2.2.2.2.2.2.length ≤ 30 ∧ ((nth T39 s.2 i).2.2.2.2.2.1 = false → zeroB (nth T39 s.2 i).2.2.2.2.2.2 = true) := by
  simp only [schemaB, Bool.and_eq_true] at h
  have h := (all_nth (T := T39)).1 h.1.1.2 i hi
  simp only [fieldB1, Bool.and_eq_true] at h
  have h := h.2
  split at h
  · rename_i hx
    exact ⟨valueOf_items h, fun e => by rw [e] at hx; cases hx⟩
  · refine ⟨?_, fun _ => h⟩
    simp only [zeroB, Bool.and_eq_true, decide_eq_true_eq] at h
    rw [h.2]; simp
theorem can_schema {s w : T50.D} (h : canB s w = true) : schemaB s = true ∧ schemaB w = true := by
  simp only [canB, Bool.and_eq_true] at h
  exact ⟨h.1.1.1, h.1.1.2⟩
def wRes : Spec [(true, T50), (true, T50), (false, .sl T29)] := ⟨fun _ => True, fun x n => .tup [.osl n (resV x.1 x.2.1 x.2.2.1).length, .bool (resB x.1 x.2.1 x.2.2.1)], fun x => [.deep D29 29 (resV x.1 x.2.1 x.2.2.1)]⟩
theorem f53_ok : FSpecOk Try.prog 53 wRes := by
  intro x n hp
  obtain ⟨⟨nm, fs⟩, ⟨nw, ws⟩, row, u⟩ := x; change List UInt8 at nm nw; change List T39.D at fs ws; change List T29.D at row
  refine FnOk_intro [.one (.dp D29 29), .one .w] Try.func53 rfl ?_
  intro hw C hC
  have hΓ := CtrsOk.addD (t := 29) (d := D29) (CtrOk.add f34_ok rfl (CtrOk.add f30_ok rfl (CtrOk.add f36_ok rfl (CtrsOk.addH f94_ok rfl (noC_ok : CtrsOk Try.prog noC)))))
  refine ACode_ok (τ := tau) hΓ mixed _ _ _ ?_
  simp [Try.f53, wRes, wC, wR, wM, wCopy]
  refine ⟨fun h => ?_, fun h1 h2 => ?_⟩
  · have : resB (nm, fs) (nw, ws) row = false := by unfold resB; rcases h with h | h <;> simp [h]
    simp [↓retQ_ret, ↓retQ_normal, resV, this]
  have hB : resB (nm, fs) (nw, ws) row = true := by unfold resB; simp [h1, h2]
  obtain ⟨s1, s2⟩ := can_schema h1
  have hV : resV (nm, fs) (nw, ws) row = resL fs ws row := by unfold resV; rw [if_pos hB]
  have hm : matchesL (nm, fs) (nw, ws) = matchL fs ws := by unfold matchesL; rw [if_pos ⟨s1, s2⟩]
  have hml : (matchL fs ws).length = fs.length := List.length_map ..
  have hb : ∀ i, i < fs.length → -1 ≤ atF ws (nth T39 fs i) ∧ atF ws (nth T39 fs i) < ws.length := fun i hi => atL_lt
  have hn : ∀ i, i < fs.length → nth (.int .i64) (matchL fs ws) i = atF ws (nth T39 fs i) := fun i hi => by unfold matchL; rw [nth_map hi]
  have hrl : row.length = ws.length := row_len h2
  have hlen : fs.length ≤ 20 := schema_len s1
  have hrv : (resL fs ws row).length = fs.length := List.length_map ..
  rw [hm]
  refine AWp_loop_ind hΓ mixed tau (fun i : Nat => ⟨[.any, .any, .sl T29 row, .ptr 0 0, .ptr 1 0, .any, .nilsl, .bool false, .osl 2 i, .osl 3 (matchL fs ws).length, .int .i64 i] ++ List.replicate 54 .any, [.cells 50 [.str nm, .sl T39 fs], .cells 50 [.str nw, .sl T39 ws], .deep D29 29 ((resL fs ws row).take i), .arr (.int .i64) 3 (matchL fs ws)]⟩) (fun i => fs.length - i) (fun i => i ≤ fs.length) 0 [0, 1, 2, 3] ?_ ?_ ?_
  · simp [hC]
  · simp
  · intro i hi
    by_cases hlt : i < fs.length
    · have ha := hn i hlt
      obtain ⟨hb1, hb2⟩ := hb i hlt
      have ht := resL_take (ws := ws) (row := row) hlt
      have hfi := (field_items s1 hlt).1
      have hri := @row_items (nw, ws) row h2
      rcases hf : nth T39 fs i with ⟨fn, fk, fl, fm, fwas, fx, vk, vn, vt, vl, vi⟩
      rw [show nth T39 (nm, fs).2 i = nth T39 fs i from rfl, hf] at hfi
      have hfi : vi.length ≤ 30 := hfi
      rw [hf] at ha hb1 hb2 ht
      generalize hA : atF ws (fn, fk, fl, fm, fwas, fx, vk, vn, vt, vl, vi) = A at ha hb1 hb2 ht
      rcases hv : nth T29 row A.toNat with ⟨uk, un, ut, ul, ui⟩
      have hui : A.toNat < row.length → ui.length ≤ 30 := fun h => by have := hri h; rw [hv] at this; exact this
      change Int at fk vk uk
      simp [hlt, hf, ha, hv, hml, hrv, wCopy]
      have hmn : min i fs.length = i := by omega
      have hgo : ∀ v : T29.D, v = pickV (fn, fk, fl, fm, fwas, fx, vk, vn, vt, vl, vi) A row → List.take i (resL fs ws row) ++ [v] = List.take (i + 1) (resL fs ws row) := fun v e => by rw [ht, e]
      intro _
      refine ⟨fun hA0 => ⟨⟨hA0, by omega⟩, fun hk => ⟨?_, ⟨by omega, by omega, by omega⟩, i + 1, by omega, by omega, [0, 1, 8, 3], by simp [hC], by simp, ⟨by simp, by simp, by simp; omega, by simp, wrap64_id (by omega)⟩, ?_⟩, fun hk => ⟨?_, ⟨by omega, by omega, by omega⟩, i + 1, by omega, by omega, [0, 1, 8, 3], by simp [hC], by simp, ⟨by simp, by simp, by simp; omega, by simp, wrap64_id (by omega)⟩, ?_⟩⟩, fun hneg => ⟨?_, ⟨by omega, by omega, by omega⟩, i + 1, by omega, by omega, [0, 1, 8, 3], by simp [hC], by simp, ⟨by simp, by simp, by simp; omega, by simp, wrap64_id (by omega)⟩, ?_⟩⟩
      · have := hui (by omega); omega
      · have := hgo (fk, un, ut, ul, ui) (by unfold pickV; rw [if_pos hA0, hv, if_neg hk])
        simp [this]
      · have := hui (by omega); omega
      · have := hgo (uk, un, ut, ul, ui) (by unfold pickV; rw [if_pos hA0, hv, if_pos hk])
        simp [this]
      · omega
      · have := hgo (vk, vn, vt, vl, vi) (by unfold pickV; rw [if_neg (by omega)])
        simp [this]
    · have hie : i = fs.length := by omega
      subst hie
      have e : List.take fs.length (resL fs ws row) = resL fs ws row := List.take_of_length_le (by omega)
      simp [↓retQ_ret, ↓retQ_normal, hml, e, hV, hB, hrv]
theorem zeroB_eq {v : T29.D} (h : zeroB v = true) : v = ((0 : Int), (0 : Int), [], false, []) := by
  obtain ⟨a, b, c, d, e⟩ := v
  simp only [zeroB, Bool.and_eq_true, decide_eq_true_eq, Bool.not_eq_true'] at h
  obtain ⟨⟨⟨⟨h1, h2⟩, h3⟩, h4⟩, h5⟩ := h
  rw [h1, h2, h3, h4, h5]
theorem f54_ok : FSpecOk Try.prog 54 wRes := by
  intro x n hp
  obtain ⟨⟨nm, fs⟩, ⟨nw, ws⟩, row, u⟩ := x; change List UInt8 at nm nw; change List T39.D at fs ws; change List T29.D at row
  refine FnOk_intro [.one (.dp D29 29), .one .w] Try.func54 rfl ?_
  intro hw C hC
  have hΓ := CtrsOk.addD (t := 29) (d := D29) (CtrOk.add f35_ok rfl (CtrOk.add f32_ok rfl (CtrOk.add f82_ok rfl (CtrsOk.addH f95_ok rfl (noC_ok : CtrsOk Try.prog noC)))))
  refine ACode_ok (τ := tau) hΓ mixed _ _ _ ?_
  simp [Try.f54, wRes, wC, wR, wMi, wCopy]
  refine ⟨fun h => ?_, fun h1 h2 => ?_⟩
  · have : resB (nm, fs) (nw, ws) row = false := by unfold resB; rcases h with h | h <;> simp [h]
    simp [↓retQ_ret, ↓retQ_normal, resV, this]
  have hB : resB (nm, fs) (nw, ws) row = true := by unfold resB; simp [h1, h2]
  obtain ⟨s1, s2⟩ := can_schema h1
  have hV : resV (nm, fs) (nw, ws) row = resL fs ws row := by unfold resV; rw [if_pos hB]
  have hml : (matchL fs ws).length = fs.length := List.length_map ..
  have hb : ∀ i, i < fs.length → -1 ≤ atF ws (nth T39 fs i) ∧ atF ws (nth T39 fs i) < ws.length := fun i hi => atL_lt
  have hn : ∀ i, i < fs.length → nth (.int .i64) (matchL fs ws) i = atF ws (nth T39 fs i) := fun i hi => by unfold matchL; rw [nth_map hi]
  have hrl : row.length = ws.length := row_len h2
  have hlen : fs.length ≤ 20 := schema_len s1
  have hrv : (resL fs ws row).length = fs.length := List.length_map ..
  refine ⟨⟨s1, s2⟩, ?_⟩
  try intro hl0
  refine AWp_nilD 8 D29 29 (by simp) ?_
  simp
  refine AWp_loop_ind hΓ mixed tau (fun i : Nat => ⟨[.any, .any, .sl T29 row, .ptr 0 0, .ptr 1 0, .any, .nilsl, .bool false, .osl 3 i] ++ List.replicate 16 .any ++ [.osl 2 (matchL fs ws).length, .int .i64 (matchL fs ws).length, .int .i64 i] ++ List.replicate 33 .any, [.cells 50 [.str nm, .sl T39 fs], .cells 50 [.str nw, .sl T39 ws], .arr (.int .i64) 3 (matchL fs ws), .deep D29 29 ((resL fs ws row).take i)]⟩) (fun i => fs.length - i) (fun i => i ≤ fs.length) 0 [0, 1, 2, 3] ?_ ?_ ?_
  · simp [hC]
  · simp
  · intro i hi
    by_cases hlt : i < fs.length
    · have ha := hn i hlt
      obtain ⟨hb1, hb2⟩ := hb i hlt
      have ht := resL_take (ws := ws) (row := row) hlt
      obtain ⟨hfi, hfz⟩ := field_items s1 hlt
      have hri := @row_items (nw, ws) row h2
      rcases hf : nth T39 fs i with ⟨fn, fk, fl, fm, fwas, fx, vk, vn, vt, vl, vi⟩
      rw [show nth T39 (nm, fs).2 i = nth T39 fs i from rfl, hf] at hfi hfz
      have hfi : vi.length ≤ 30 := hfi
      have hfz : fx = false → zeroB (vk, vn, vt, vl, vi) = true := hfz
      rw [hf] at ha hb1 hb2 ht
      generalize hA : atF ws (fn, fk, fl, fm, fwas, fx, vk, vn, vt, vl, vi) = A at ha hb1 hb2 ht
      rcases hv : nth T29 row A.toNat with ⟨uk, un, ut, ul, ui⟩
      have hui : A.toNat < row.length → ui.length ≤ 30 := fun h => by have := hri h; rw [hv] at this; exact this
      change Int at fk vk uk
      simp [hlt, hf, ha, hv, hml, hrv, wCopy]
      have hmn : min i fs.length = i := by omega
      have hgo : ∀ v : T29.D, v = pickV (fn, fk, fl, fm, fwas, fx, vk, vn, vt, vl, vi) A row → List.take i (resL fs ws row) ++ [v] = List.take (i + 1) (resL fs ws row) := fun v e => by rw [ht, e]
      try intro _
      refine ⟨fun hA0 => ⟨⟨hA0, by omega⟩, fun hk => ⟨?_, ⟨by omega, by omega, by omega⟩, i + 1, by omega, by omega, [0, 1, 2, 8], by simp [hC], by simp, ⟨by simp, by simp, by simp; omega, by simp, wrap64_id (by omega)⟩, ?_⟩, fun hk => ⟨?_, ⟨by omega, by omega, by omega⟩, i + 1, by omega, by omega, [0, 1, 2, 8], by simp [hC], by simp, ⟨by simp, by simp, by simp; omega, by simp, wrap64_id (by omega)⟩, ?_⟩⟩, fun hneg => ?_⟩
      · have := hui (by omega); omega
      · have := hgo (fk, un, ut, ul, ui) (by unfold pickV; rw [if_pos hA0, hv, if_neg hk])
        simp [this]
      · have := hui (by omega); omega
      · have := hgo (uk, un, ut, ul, ui) (by unfold pickV; rw [if_pos hA0, hv, if_pos hk])
        subst hk
        simp [this]
      · refine ⟨fun hx => ⟨by omega, ⟨by omega, by omega, by omega⟩, i + 1, by omega, by omega, [0, 1, 2, 8], by simp [hC], by simp, ⟨by simp, by simp, by simp; omega, by simp, wrap64_id (by omega)⟩, ?_⟩, fun hx => ⟨⟨by omega, by omega, by omega⟩, i + 1, by omega, by omega, [0, 1, 2, 8], by simp [hC], by simp, ⟨by simp, by simp, by simp; omega, by simp, wrap64_id (by omega)⟩, ?_⟩⟩
        · have := hgo (vk, vn, vt, vl, vi) (by unfold pickV; rw [if_neg (by omega)])
          simp [this]
        · have hz := zeroB_eq (hfz hx)
          have := hgo ((0 : Int), (0 : Int), [], false, []) (by unfold pickV; rw [if_neg (by omega)]; exact hz.symm)
          simp [this]
    · have hie : i = fs.length := by omega
      subst hie
      have e : List.take fs.length (resL fs ws row) = resL fs ws row := List.take_of_length_le (by omega)
      simp [↓retQ_ret, ↓retQ_normal, hml, e, hV, hB, hrv]
end Go.Proofs.Ytjkdbippldbcmaa
