/- Rows as bytes: the contracts of WriteRow. -/
import Derived.Test.YthojapklndjidaaVw
import Derived.Test.YthojapklndjidaaPi
namespace Go.Proofs.Ythojapklndjidaa
open Go Go.RowKit
set_option linter.all false
set_option pp.deepTerms true
set_option pp.maxSteps 200000
set_option maxRecDepth 100000
set_option maxHeartbeats 8000000
def itemsL (k : Int) (l : List T76.D) : List UInt8 := l.flatMap (itemL k)
@[simp] theorem itemsL_nil (k : Int) : itemsL k [] = [] := rfl
def bodyW (v : T70.D) : List UInt8 := if v.2.2.2.1 = false then itemL v.1 (v.2.1, v.2.2.1) else putL v.2.2.2.2.length ++ itemsL v.1 v.2.2.2.2
def fieldW (f : T73.D) (v : T70.D) : List UInt8 := if f.2.2.2.1 = true then (if v.1 = 0 then [0] else 1 :: bodyW v) else bodyW v
def rowW (fs : List T73.D) (r : List T70.D) (i : Nat) : List UInt8 := (List.range i).flatMap fun j => fieldW (nth T73 fs j) (nth T70 r j)
theorem rowW_succ (fs : List T73.D) (r : List T70.D) (i : Nat) : rowW fs r (i + 1) = rowW fs r i ++ fieldW (nth T73 fs i) (nth T70 r i) := by
  unfold rowW; rw [List.range_succ, List.flatMap_append]; simp
theorem item_len {k : Int} {x : T76.D} (hx : -9223372036854775808 ≤ (x.1 : Int) ∧ (x.1 : Int) ≤ 9223372036854775807) (h : x.2.length ≤ 100) : (itemL k x).length ≤ 110 := by
  have h1 := putL_len hx
  have h2 := putL_len (n := (x.2.length : Int)) (by omega)
  unfold itemL
  split
  · simp
  · split
    · simp; omega
    · omega
theorem flat_len {l : List T76.D} {k : Int} (h : ∀ x ∈ l, (itemL k x).length ≤ 110) : (itemsL k l).length ≤ 110 * l.length := by
  unfold itemsL
  induction l with
  | nil => simp
  | cons a l ih =>
    have h1 := h a (by simp)
    have h2 := ih fun x hx => h x (by simp [hx])
    rw [List.flatMap_cons, List.length_append, List.length_cons]; omega
theorem item_ok {k : Int} {x : T76.D} (hk : inB k 1 4 = true) (h : itemB k x = true) : (itemL k x).length ≤ 110 ∧ x.2.length ≤ 100 := by
  have hk' := hk
  unfold inB at hk
  simp only [Bool.and_eq_true, decide_eq_true_eq] at hk
  obtain ⟨a, s⟩ := x
  change Int at a; change List UInt8 at s
  have h2 : s.length ≤ 100 ∧ -9223372036854775808 ≤ a ∧ a ≤ 9223372036854775807 := by
    have : k = 1 ∨ k = 2 ∨ k = 3 ∨ k = 4 := by omega
    rcases this with rfl | rfl | rfl | rfl <;> simp [itemB, inB] at h
    · obtain ⟨h0, h1⟩ := h; rw [h0]; simp; omega
    · obtain ⟨h0, h1⟩ := h; rw [h0]; simp; omega
    · obtain ⟨h0, h1⟩ := h; rw [h0]; simp; omega
    · obtain ⟨⟨h0, h1⟩, _⟩ := h; rw [h0]; simp; exact h1
  exact ⟨item_len h2.2 h2.1, h2.1⟩
/-- What a value that is in order gives: bounds. -/
theorem body_ok {v : T70.D} (h : valueB v = true) (h0 : ¬ v.1 = 0) : (bodyW v).length ≤ 3310 ∧ v.2.2.1.length ≤ 100 ∧ v.2.2.2.2.length ≤ 30 ∧ (∀ x ∈ v.2.2.2.2, (itemL v.1 x).length ≤ 110 ∧ x.2.length ≤ 100) := by
  unfold valueB at h
  rw [if_neg h0] at h
  simp only [Bool.and_eq_true] at h
  obtain ⟨hk, h⟩ := h
  split at h
  · rename_i hl
    simp only [Bool.and_eq_true, decide_eq_true_eq, List.all_eq_true] at h
    obtain ⟨⟨⟨h1, h2⟩, h3⟩, h4⟩ := h
    have h5 : ∀ x ∈ v.2.2.2.2, (itemL v.1 x).length ≤ 110 ∧ x.2.length ≤ 100 := fun x hx => item_ok hk (h4 x hx)
    have h6 := flat_len fun x hx => (h5 x hx).1
    have h7 := putL_len (n := (v.2.2.2.2.length : Int)) (by omega)
    refine ⟨?_, by rw [h2]; simp, h3, h5⟩
    unfold bodyW
    rw [if_neg (by rw [hl]; simp), List.length_append]; omega
  · rename_i hl
    simp only [Bool.and_eq_true, decide_eq_true_eq] at h
    obtain ⟨h1, h2⟩ := h
    have h3 := item_ok hk h2
    refine ⟨?_, h3.2, by rw [h1]; simp, by rw [h1]; simp⟩
    unfold bodyW
    rw [if_pos (by simpa using hl)]; omega
theorem field_ok {f : T73.D} {v : T70.D} (h : valueOfB f v = true) : (fieldW f v).length ≤ 3311 ∧ (v.1 = 0 → f.2.2.2.1 = true) ∧ (¬ v.1 = 0 → v.1 = f.2.1 ∧ v.2.2.2.1 = f.2.2.1 ∧ v.2.2.1.length ≤ 100 ∧ v.2.2.2.2.length ≤ 30 ∧ ∀ x ∈ v.2.2.2.2, (itemL v.1 x).length ≤ 110 ∧ x.2.length ≤ 100) := by
  unfold valueOfB at h
  simp only [Bool.and_eq_true] at h
  obtain ⟨⟨hk, h1⟩, h2⟩ := h
  by_cases h0 : v.1 = 0
  · rw [if_pos h0] at h2
    refine ⟨?_, fun _ => h2, fun h => absurd h0 h⟩
    unfold fieldW
    rw [if_pos h2, if_pos h0]; simp
  · rw [if_neg h0] at h2
    simp only [Bool.and_eq_true, decide_eq_true_eq] at h2
    obtain ⟨a1, a2, a3, a4⟩ := body_ok h1 h0
    refine ⟨?_, fun h => absurd h h0, fun _ => ⟨h2.1, h2.2, a2, a3, a4⟩⟩
    unfold fieldW
    rw [if_neg h0]
    split
    · simp; omega
    · omega
theorem rowW_len {fs : List T73.D} {r : List T70.D} : ∀ {i : Nat}, (∀ j, j < i → valueOfB (nth T73 fs j) (nth T70 r j) = true) → (rowW fs r i).length ≤ 3311 * i
  | 0, _ => by simp [rowW]
  | i + 1, h => by
    have h1 := rowW_len (i := i) fun j hj => h j (by omega)
    have h2 := (field_ok (h i (by omega))).1
    rw [rowW_succ, List.length_append]; omega
def wrB (id : Int) (s : T32.D) (r : List T70.D) : Bool := inB id 0 1000000000 && rowB s r
def wrL (id : Int) (s : T32.D) (r : List T70.D) : List UInt8 := if wrB id s r = true then putL id ++ rowW s.2 r r.length else []
def wWr : Spec [(false, .int .i64), (true, T32), (false, .sl T70)] := ⟨fun _ => True, fun x n => .osl n (wrL x.1 x.2.1 x.2.2.1).length, fun x => [.arr .byte 5 (wrL x.1 x.2.1 x.2.2.1)]⟩
theorem wrB_ok {id : Int} {s : T32.D} {r : List T70.D} (h : wrB id s r = true) : inB id 0 1000000000 = true ∧ r.length = s.2.length ∧ r.length ≤ 20 ∧ ∀ j, j < r.length → valueOfB (nth T73 s.2 j) (nth T70 r j) = true := by
  unfold wrB rowB schemaB at h
  simp only [Bool.and_eq_true, decide_eq_true_eq] at h
  obtain ⟨h0, ⟨⟨⟨⟨⟨_, h1⟩, _⟩, _⟩, _⟩, h2⟩, h3⟩ := h
  unfold inB at h1
  simp only [Bool.and_eq_true, decide_eq_true_eq] at h1
  exact ⟨h0, h2, by omega, range_all.1 h3⟩
theorem wr_no {id : Int} {s : T32.D} {r : List T70.D} (h : wrB id s r = false) : wrL id s r = [] := by unfold wrL; rw [h]; rfl
theorem wr_yes {id : Int} {s : T32.D} {r : List T70.D} (h : wrB id s r = true) : wrL id s r = putL id ++ rowW s.2 r r.length := by unfold wrL; rw [h]; rfl
theorem nth_mem76 {l : List T76.D} {i : Nat} (h : i < l.length) : nth T76 l i ∈ l := by
  unfold nth; rw [List.getD_eq_getElem?_getD, List.getElem?_eq_getElem h]; exact List.getElem_mem h
theorem flat_take {l : List T76.D} {k : Int} {j : Nat} (h : j < l.length) : itemsL k (l.take (j + 1)) = itemsL k (l.take j) ++ itemL k (nth T76 l j) := by
  unfold itemsL
  rw [take_nth (T := T76) h, List.flatMap_append]; simp
theorem f8_ok : FSpecOk Try.prog 8 wWr := by
  intro x n hp
  obtain ⟨id, ⟨nm, fs⟩, r, u⟩ := x; change Int at id; change List UInt8 at nm; change List T73.D at fs; change List T70.D at r
  refine FnOk_intro [.one (.own .byte 5)] Try.func8 rfl ?_
  intro hw C hC
  have hr : -9223372036854775808 ≤ id ∧ id ≤ 9223372036854775807 := by simp [inR] at hw; omega
  have hΓ := CtrsOk.addPX (id := 18) (X := [1]) (p := .take 0 (.take 1 (.take 2 (.take 3 (.take 4 (.take 5 (.take 6 (.take 7 (.one 8 (.one 9 .done)))))))))) (CtrOk.add f30_ok rfl (CtrOk.add f31_ok rfl (CtrOk.add f32_ok rfl (CtrsOk.addH h33_ok rfl (noC_ok : CtrsOk Try.prog noC)))))
  refine AWp_cut hΓ mixed tau ⟨[.int .i64 id, .any, .sl T70 r, .any, .ptr 0 0] ++ List.replicate 78 .any, [.cells 32 [.str nm, .sl T73 fs]]⟩ True [0] (by simp [hC]) ?_ fun _ => ?_
  · simp [Try.f8]
  refine AWp_cut hΓ mixed tau ⟨[.int .i64 id, .any, .sl T70 r, .any, .ptr 0 0] ++ List.replicate 78 .any, [.cells 32 [.str nm, .sl T73 fs]]⟩ (wrB id (nm, fs) r = true) [0] (by simp [hC]) ?_ fun hok => ?_
  · simp [wB, wR]
    refine ⟨fun h => ?_, fun h1 h2 => by unfold wrB; rw [h1, h2]; rfl⟩
    have e : wrB id (nm, fs) r = false := by
      unfold wrB
      rcases h with h | h
      · rw [h]; simp
      · rw [h]; simp
    simp [↓retQ_ret, ↓retQ_normal, wWr, wr_no e]
  obtain ⟨hid, hlen, hl20, hval⟩ := wrB_ok hok
  simp only at hlen hval
  have hpl := putL_len hr
  refine AWp_cut hΓ mixed tau ⟨[.int .i64 id, .any, .sl T70 r, .any, .ptr 0 0, .any, .any, .osl 1 (putL id).length] ++ List.replicate 75 .any, [.cells 32 [.str nm, .sl T73 fs], .arr .byte 5 (putL id)]⟩ True [0, 1] (by simp [hC]) ?_ fun _ => ?_
  · simp [wPut]
  refine AWp_cut hΓ mixed tau ⟨[.int .i64 id, .any, .sl T70 r, .any, .ptr 0 0, .any, .any, .osl 1 (putL id ++ rowW fs r r.length).length] ++ List.replicate 75 .any, [.cells 32 [.str nm, .sl T73 fs], .arr .byte 5 (putL id ++ rowW fs r r.length)]⟩ True [0, 1] (by simp [hC]) ?_ fun _ => ?_
  · simp
    refine AWp_loop_ind hΓ mixed tau (fun i : Nat => ⟨[.int .i64 id, .any, .sl T70 r, .any, .ptr 0 0, .any, .any, .osl 1 (putL id ++ rowW fs r i).length, .int .i64 i] ++ List.replicate 74 .any, [.cells 32 [.str nm, .sl T73 fs], .arr .byte 5 (putL id ++ rowW fs r i)]⟩) (fun i => r.length - i) (fun i => i ≤ r.length) 0 [0, 1] ?_ ?_ ?_
    · simp [hC, rowW]
    · simp
    intro i hi
    have hl1 := rowW_len (fs := fs) (r := r) (i := i) fun j hj => hval j (by omega)
    have hS := rowW_succ fs r i
    have hF := fun h => field_ok (hval i h)
    rcases hf : nth T73 fs i with ⟨fn, fk, fl, fm, fwas, fx, vk0, vn0, vt0, vl0, vi0⟩
    rcases hv : nth T70 r i with ⟨vk, vn, vt, vl, vi⟩
    rw [hf, hv] at hS hF
    change Int at fk vk vn; change Bool at fl fm vl; change List UInt8 at vt; change List T76.D at vi
    have hSA : fm = true → vk = 0 → rowW fs r (i + 1) = rowW fs r i ++ [0] := fun a b => by rw [hS, fieldW, if_pos a, if_pos b]
    have hSB : fm = true → ¬ vk = 0 → rowW fs r (i + 1) = rowW fs r i ++ (1 :: bodyW (vk, vn, vt, vl, vi)) := fun a b => by rw [hS, fieldW, if_pos a, if_neg b]
    have hSC : fm = false → rowW fs r (i + 1) = rowW fs r i ++ bodyW (vk, vn, vt, vl, vi) := fun a => by rw [hS, fieldW, if_neg (by rw [a]; simp)]
    have hG : i < r.length → ¬ vk = 0 → vk = fk ∧ vl = fl ∧ vt.length ≤ 100 ∧ vi.length ≤ 30 ∧ ∀ x ∈ vi, (itemL vk x).length ≤ 110 ∧ x.2.length ≤ 100 := fun a b => (hF a).2.2 b
    have hk1 : fm = true → ¬ vk = 0 → ¬ vk = 0 := fun _ h => h
    have hk2 : i < r.length → fm = false → ¬ vk = 0 := fun a b c => by have := (hF a).2.1 c; simp only at this; rw [b] at this; cases this
    have w1 : i < r.length → IntKind.i64.wrap ((i : Int) + 1) = ((i + 1 : Nat) : Int) := fun h => by rw [wrap64_id (by omega)]; omega
    have ht : List.take ((putL id).length + (rowW fs r i).length) (putL id ++ rowW fs r i) = putL id ++ rowW fs r i := List.take_of_length_le (by simp)
    clear hS hF
    generalize hW : rowW fs r i = W at *
    have ht2 : List.take ((putL id).length + (W.length + 1)) (putL id ++ (W ++ [1])) = putL id ++ (W ++ [1]) := List.take_of_length_le (by simp)
    simp (maxSteps := 8000000) [hf, hv, wPut, hItem, maxB]
    repeat' (first | with_reducible refine And.intro ?_ ?_ | with_reducible intro _ | (show ¬ _; intro _))
    all_goals first
      | omega
      | assumption
      | (have := (hG (by assumption) (by assumption)).2.2.1; omega)
      | (have := (hG (by assumption) (hk2 (by assumption) (by assumption))).2.2.1; omega)
      | (have := (hG (by assumption) (by assumption)).2.2.2.1; have := putL_len (n := (vi.length : Int)) (by omega); omega)
      | (have := (hG (by assumption) (hk2 (by assumption) (by assumption))).2.2.2.1; have := putL_len (n := (vi.length : Int)) (by omega); omega)
      | (have e := hSA (by assumption) (by assumption)
         first
           | exact ⟨i + 1, by omega, by omega, [0, 3], by simp [hC], by decide, ⟨rfl, ⟨rfl, by rw [e]; simp [Nat.add_assoc] <;> omega⟩, w1 (by assumption)⟩, by rw [e]; simp [leH, leO, leT, leA, ht]⟩
           | exact ⟨i + 1, by omega, by omega, [0, 4], by simp [hC], by decide, ⟨rfl, ⟨rfl, by rw [e]; simp [Nat.add_assoc] <;> omega⟩, w1 (by assumption)⟩, by rw [e]; simp [leH, leO, leT, leA, ht]⟩
           | exact ⟨i + 1, by omega, by omega, [0, 5], by simp [hC], by decide, ⟨rfl, ⟨rfl, by rw [e]; simp [Nat.add_assoc] <;> omega⟩, w1 (by assumption)⟩, by rw [e]; simp [leH, leO, leT, leA, ht]⟩
           | exact ⟨i + 1, by omega, by omega, [0, 6], by simp [hC], by decide, ⟨rfl, ⟨rfl, by rw [e]; simp [Nat.add_assoc] <;> omega⟩, w1 (by assumption)⟩, by rw [e]; simp [leH, leO, leT, leA, ht]⟩)
      | (have e := hSB (by assumption) (by assumption)
         rw [bodyW, if_pos (by assumption)] at e
         first
           | exact ⟨i + 1, by omega, by omega, [0, 3], by simp [hC], by decide, ⟨rfl, ⟨rfl, by rw [e]; simp [Nat.add_assoc] <;> omega⟩, w1 (by assumption)⟩, by rw [e]; simp [leH, leO, leT, leA, ht]⟩
           | exact ⟨i + 1, by omega, by omega, [0, 4], by simp [hC], by decide, ⟨rfl, ⟨rfl, by rw [e]; simp [Nat.add_assoc] <;> omega⟩, w1 (by assumption)⟩, by rw [e]; simp [leH, leO, leT, leA, ht]⟩
           | exact ⟨i + 1, by omega, by omega, [0, 5], by simp [hC], by decide, ⟨rfl, ⟨rfl, by rw [e]; simp [Nat.add_assoc] <;> omega⟩, w1 (by assumption)⟩, by rw [e]; simp [leH, leO, leT, leA, ht]⟩
           | exact ⟨i + 1, by omega, by omega, [0, 6], by simp [hC], by decide, ⟨rfl, ⟨rfl, by rw [e]; simp [Nat.add_assoc] <;> omega⟩, w1 (by assumption)⟩, by rw [e]; simp [leH, leO, leT, leA, ht]⟩)
      | (have e := hSC (by assumption)
         rw [bodyW, if_pos (by assumption)] at e
         first
           | exact ⟨i + 1, by omega, by omega, [0, 3], by simp [hC], by decide, ⟨rfl, ⟨rfl, by rw [e]; simp [Nat.add_assoc] <;> omega⟩, w1 (by assumption)⟩, by rw [e]; simp [leH, leO, leT, leA, ht]⟩
           | exact ⟨i + 1, by omega, by omega, [0, 4], by simp [hC], by decide, ⟨rfl, ⟨rfl, by rw [e]; simp [Nat.add_assoc] <;> omega⟩, w1 (by assumption)⟩, by rw [e]; simp [leH, leO, leT, leA, ht]⟩
           | exact ⟨i + 1, by omega, by omega, [0, 5], by simp [hC], by decide, ⟨rfl, ⟨rfl, by rw [e]; simp [Nat.add_assoc] <;> omega⟩, w1 (by assumption)⟩, by rw [e]; simp [leH, leO, leT, leA, ht]⟩
           | exact ⟨i + 1, by omega, by omega, [0, 6], by simp [hC], by decide, ⟨rfl, ⟨rfl, by rw [e]; simp [Nat.add_assoc] <;> omega⟩, w1 (by assumption)⟩, by rw [e]; simp [leH, leO, leT, leA, ht]⟩)
      | (have e := hSB (by assumption) (by assumption)
         rw [bodyW, if_neg (by simp [(by assumption : vl = true)])] at e
         have e : rowW fs r (i + 1) = W ++ (1 :: (putL vi.length ++ itemsL vk vi)) := e
         have hk0 : ¬ vk = 0 := hk1 (by assumption) (by assumption)
         obtain ⟨b1, b2, b3, b4, b5⟩ := hG (by assumption) hk0
         have hpv := putL_len (n := (vi.length : Int)) (by omega)
         refine AWp_loop_ind hΓ mixed tau (fun k : Nat => ⟨[.int .i64 id, .any, .sl T70 r, .any, .ptr 0 0, .any, .any, .osl 1 (putL id ++ (W ++ (1 :: (putL vi.length ++ itemsL vk (vi.take k))))).length, .int .i64 i, .ptr 2 0, .int .i64 k] ++ List.replicate 72 .any, [.cells 32 [.str nm, .sl T73 fs], .arr .byte 5 (putL id ++ (W ++ (1 :: (putL vi.length ++ itemsL vk (vi.take k))))), .cells 70 [.int .i64 vk, .int .i64 vn, .str vt, .bool vl, .sl T76 vi]]⟩) (fun k => vi.length - k) (fun k => k ≤ vi.length) 0 [0, 6, 2] ?_ ?_ ?_
         · simp [hC, ht, ht2, Nat.add_assoc]
           have hn : (itemsL vk []).length = 0 := rfl
           first
             | exact rfl
             | exact ⟨by omega, rfl⟩
         · simp
         intro k hk
         have hfl := flat_len (l := vi.take k) (k := vk) fun x hx => (b5 x (List.mem_of_mem_take hx)).1
         have hst := fun h => flat_take (l := vi) (k := vk) (j := k) h
         have hxx := fun h => b5 _ (nth_mem76 (l := vi) (i := k) h)
         have w3 : k < vi.length → IntKind.i64.wrap ((k : Int) + 1) = ((k + 1 : Nat) : Int) := fun h => by rw [wrap64_id (by omega)]; omega
         have hln : (vi.take k).length ≤ 30 := by rw [List.length_take]; omega
         rcases hg : nth T76 vi k with ⟨xa, xs⟩
         rw [hg] at hst hxx
         change Int at xa; change List UInt8 at xs
         generalize hY : itemsL vk (vi.take k) = Y at *
         simp (maxSteps := 8000000) [hg, hItem, maxB]
         repeat' (first | with_reducible refine And.intro ?_ ?_ | with_reducible intro _ | (show ¬ _; intro _))
         all_goals first
           | omega
           | (show (_ : Bool) = true; kernel_rfl)
           | (have := (hxx (by assumption)).2; simp only at this; omega)
           | (have e3 := hst (by assumption)
              first
                | exact ⟨k + 1, by omega, by omega, [0, 4, 2], by simp [hC], by decide, ⟨rfl, ⟨rfl, by rw [e3]; simp; omega⟩, rfl, w3 (by assumption)⟩, by rw [e3]; simp [leH, leO, leT, leA, List.append_assoc]⟩
                | exact ⟨k + 1, by omega, by omega, [0, 3, 2], by simp [hC], by decide, ⟨rfl, ⟨rfl, by rw [e3]; simp; omega⟩, rfl, w3 (by assumption)⟩, by rw [e3]; simp [leH, leO, leT, leA, List.append_assoc]⟩)
           | (have e4 : Y = itemsL vk vi := by rw [← hY, List.take_of_length_le (by omega)]
              subst e4
              exact ⟨i + 1, by omega, by omega, [0, 1], by simp [hC], by decide, ⟨rfl, ⟨rfl, by rw [e]; simp; try omega⟩, w1 (by assumption)⟩, by rw [e]; simp [leH, leO, leT, leA, List.append_assoc]⟩)
           | trace_state)
      | (have e := hSC (by assumption)
         rw [bodyW, if_neg (by simp [(by assumption : vl = true)])] at e
         have e : rowW fs r (i + 1) = W ++ (putL vi.length ++ itemsL vk vi) := e
         have hk0 : ¬ vk = 0 := hk2 (by assumption) (by assumption)
         obtain ⟨b1, b2, b3, b4, b5⟩ := hG (by assumption) hk0
         have hpv := putL_len (n := (vi.length : Int)) (by omega)
         refine AWp_loop_ind hΓ mixed tau (fun k : Nat => ⟨[.int .i64 id, .any, .sl T70 r, .any, .ptr 0 0, .any, .any, .osl 1 (putL id ++ (W ++ (putL vi.length ++ itemsL vk (vi.take k)))).length, .int .i64 i, .ptr 2 0, .int .i64 k] ++ List.replicate 72 .any, [.cells 32 [.str nm, .sl T73 fs], .arr .byte 5 (putL id ++ (W ++ (putL vi.length ++ itemsL vk (vi.take k)))), .cells 70 [.int .i64 vk, .int .i64 vn, .str vt, .bool vl, .sl T76 vi]]⟩) (fun k => vi.length - k) (fun k => k ≤ vi.length) 0 [0, 4, 2] ?_ ?_ ?_
         · simp [hC, ht, ht2, Nat.add_assoc]
           have hn : (itemsL vk []).length = 0 := rfl
           first
             | exact rfl
             | exact ⟨by omega, rfl⟩
         · simp
         intro k hk
         have hfl := flat_len (l := vi.take k) (k := vk) fun x hx => (b5 x (List.mem_of_mem_take hx)).1
         have hst := fun h => flat_take (l := vi) (k := vk) (j := k) h
         have hxx := fun h => b5 _ (nth_mem76 (l := vi) (i := k) h)
         have w3 : k < vi.length → IntKind.i64.wrap ((k : Int) + 1) = ((k + 1 : Nat) : Int) := fun h => by rw [wrap64_id (by omega)]; omega
         have hln : (vi.take k).length ≤ 30 := by rw [List.length_take]; omega
         rcases hg : nth T76 vi k with ⟨xa, xs⟩
         rw [hg] at hst hxx
         change Int at xa; change List UInt8 at xs
         generalize hY : itemsL vk (vi.take k) = Y at *
         simp (maxSteps := 8000000) [hg, hItem, maxB]
         repeat' (first | with_reducible refine And.intro ?_ ?_ | with_reducible intro _ | (show ¬ _; intro _))
         all_goals first
           | omega
           | (show (_ : Bool) = true; kernel_rfl)
           | (have := (hxx (by assumption)).2; simp only at this; omega)
           | (have e3 := hst (by assumption)
              first
                | exact ⟨k + 1, by omega, by omega, [0, 4, 2], by simp [hC], by decide, ⟨rfl, ⟨rfl, by rw [e3]; simp; omega⟩, rfl, w3 (by assumption)⟩, by rw [e3]; simp [leH, leO, leT, leA, List.append_assoc]⟩
                | exact ⟨k + 1, by omega, by omega, [0, 3, 2], by simp [hC], by decide, ⟨rfl, ⟨rfl, by rw [e3]; simp; omega⟩, rfl, w3 (by assumption)⟩, by rw [e3]; simp [leH, leO, leT, leA, List.append_assoc]⟩)
           | (have e4 : Y = itemsL vk vi := by rw [← hY, List.take_of_length_le (by omega)]
              subst e4
              exact ⟨i + 1, by omega, by omega, [0, 1], by simp [hC], by decide, ⟨rfl, ⟨rfl, by rw [e]; simp; try omega⟩, w1 (by assumption)⟩, by rw [e]; simp [leH, leO, leT, leA, List.append_assoc]⟩)
           | trace_state)
      | (have e : i = r.length := by omega
         rw [← hW, e])
      | trace_state
  refine ACode_ok (τ := tau) hΓ mixed _ _ _ ?_
  simp [maxB]
  simp [↓retQ_ret, ↓retQ_normal, wWr, wr_yes hok]
end Go.Proofs.Ythojapklndjidaa
