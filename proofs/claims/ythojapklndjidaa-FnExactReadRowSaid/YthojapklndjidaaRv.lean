/- Rows read from bytes: what both sides compute; small contracts. -/
import Derived.Test.YthojapklndjidaaRs
import Derived.Test.YthojapklndjidaaRt
import Derived.Test.YthojapklndjidaaVw
import Derived.Test.YthojapklndjidaaPi
namespace Go.Proofs.Ythojapklndjidaa
open Go Go.RowKit
set_option linter.all false
set_option pp.deepTerms true
set_option pp.maxSteps 200000
set_option maxRecDepth 100000
set_option maxHeartbeats 8000000
section
variable {P : Program} {C : Ctx} {Φ : Nat → Option Obj} {L : Locs} {H : List AObj} {w : World}
/-- A nil slice in a cell, as an array of the call's own that holds nothing. -/
theorem AWp_nilc {c : Code} {S : St} {Q : AExit → St → Prop} (γ off : Nat) (t : TypeId) (cs : List AV) (T : Ty) (e : TypeId) (hγ : S.heap[γ]? = some (.cells t cs)) (hd : cs[off]? = some .nilsl) (h : AWp P C c ⟨S.tmps, S.heap.set γ (.cells t (cs.set off (.osl S.heap.length 0))) ++ [.arr T e []]⟩ Q) : AWp P C c S Q := by
  intro Φ L a w hc
  have hL : ∀ (i : Nat) x, L[i]? = some x → (L ++ [none])[i]? = some x := fun i x hx => by rw [List.getElem?_append_left (List.getElem?_eq_some_iff.1 hx).1]; exact hx
  have hn : Inv C Φ (L ++ [none]) (S.heap ++ [.arr T e []]) w :=
    ⟨hc.inv.toInv0.new (l := none) (o := .arr T e []) ⟨[], World.ownsRow_nil w 0 e T.size, rfl⟩ (fun g cap he => by cases he), Deep.new hc.inv (Below.refl _ _) rfl fun g cap he => by cases he⟩
  have hlt : γ < S.heap.length := (List.getElem?_eq_some_iff.1 hγ).1
  refine h Φ (L ++ [none]) a w ⟨hc.defers, hc.size, fun i c v hci hv => (hc.tmps i c v hci hv).mono (More.refl _) hL, ?_⟩
  have he : S.heap.set γ (.cells t (cs.set off (.osl S.heap.length 0))) ++ [.arr T e []] = (S.heap ++ [AObj.arr T e []]).set γ (AObj.cells t (cs.set off (.osl S.heap.length 0))) := by
    rw [List.set_append_left _ _ hlt]
  show Inv C Φ (L ++ [none]) (S.heap.set γ (.cells t (cs.set off (.osl S.heap.length 0))) ++ [.arr T e []]) w
  rw [he]
  have hg2 : (S.heap ++ [.arr T e []])[γ]? = some (.cells t cs) := by rw [List.getElem?_append_left hlt]; exact hγ
  obtain ⟨l, hl, g, cap, vs, rfl, hgw, hcv⟩ := hn.obj γ _ hg2
  refine hn.turn (o' := .cells t (cs.set off (.osl S.heap.length 0))) hg2 rfl rfl rfl hl (fun _ _ => rfl) rfl rfl rfl rfl ⟨g, cap, vs, rfl, hgw, by rw [List.length_set]; exact hcv.1, fun i c v hci hvi => ?_⟩
  rw [List.getElem?_set] at hci
  split at hci
  · rename_i hio
    split at hci
    · simp only [Option.some.injEq] at hci
      subst hci; subst hio
      obtain ⟨h1, h2⟩ := hcv.2 off .nilsl v hd hvi
      refine ⟨h1, ?_⟩
      cases h2
      exact .oslnil _ _ (by rw [← hc.inv.len]; simp) rfl
    · cases hci
  · exact hcv.2 i c v hci hvi
end
/-- A slice that is nil, as an array of the call's own that holds nothing. -/
theorem AWp_nilD {P : Program} {C : Ctx} {c : Code} {S : St} {Q : AExit → St → Prop} (d : Nat) (D : DT) (e : TypeId) (hd : S.tmps[d]? = some .nilsl) (h : AWp P C c ⟨S.tmps.set d (.osl S.heap.length 0), S.heap ++ [.deep D e []]⟩ Q) : AWp P C c S Q := by
  intro Φ L a w hc
  refine h Φ (L ++ [none]) a w ⟨hc.defers, by simp [hc.size], fun i c v hci hv => ?_, ?_⟩
  · have hL : ∀ (i : Nat) x, L[i]? = some x → (L ++ [none])[i]? = some x := fun i x hx => by rw [List.getElem?_append_left (List.getElem?_eq_some_iff.1 hx).1]; exact hx
    have hci : (S.tmps.set d (.osl S.heap.length 0))[i]? = some c := hci
    by_cases hid : d = i
    · subst hid
      rw [List.getElem?_set_self (List.getElem?_eq_some_iff.1 hd).1] at hci
      simp only [Option.some.injEq] at hci; subst hci
      have := hc.tmps d _ v hd hv
      cases this
      exact .oslnil _ _ (by rw [← hc.inv.len]; simp) rfl
    · rw [List.getElem?_set_ne hid] at hci
      exact (hc.tmps i c v hci hv).mono (More.refl _) hL
  · obtain ⟨F, hF⟩ := hc.inv.deep
    refine ⟨hc.inv.toInv0.new (l := none) (o := .deep D e []) ?_ (fun g cap he => by cases he), Deep.newF hc.inv.len hF (l := none) (o := .deep D e []) (G := []) (fun _ => ⟨[], World.ownsRow_nil w 0 e D.ty.size, rfl, rfl⟩) List.nodup_nil (by simp) (fun g cap he => by cases he)⟩
    exact ⟨[], World.ownsRow_nil w 0 e D.ty.size⟩

structure ZV where
  v : ValX
  a : Nat
  c : Int
structure ZA where
  a : Nat
  c : Int
structure ZN where
  m : Nat
  a : Nat
def hasP (b h : List UInt8) : Bool := decide (b.take h.length = h)
def wBEq : Spec [(false, .sl .byte), (false, .sl .byte)] := ⟨fun x => x.1.length ≤ 16777216 ∧ x.2.1.length ≤ 16777216, fun x _ => .bool (decide (x.1 = x.2.1)), fun _ => []⟩
theorem f87_ok : FSpecOk Try.prog 87 wBEq := by
  intro x n hp
  obtain ⟨a, b, u⟩ := x; change List UInt8 at a b
  obtain ⟨ha, hb⟩ : a.length ≤ 16777216 ∧ b.length ≤ 16777216 := hp
  refine FnOk_intro [.one .w] Try.func87 rfl ?_
  intro hw C hC
  refine ACode_ok (τ := tau) (noC_ok : CtrsOk Try.prog noC) mixed _ _ _ ?_
  simp [Try.f87, wBEq, maxB, ha, hb]
  repeat' (first | with_reducible refine And.intro ?_ ?_ | with_reducible intro _)
  all_goals first
    | omega
    | (simp [↓retQ_ret, ↓retQ_normal]; done)
    | trace_state
def wHasP : Spec [(false, .sl .byte), (false, .sl .byte)] := ⟨fun x => x.1.length ≤ 16777216 ∧ x.2.1.length ≤ 16777216, fun x _ => .bool (hasP x.1 x.2.1), fun _ => []⟩
theorem f49_ok : FSpecOk Try.prog 49 wHasP := by
  intro x n hp
  obtain ⟨a, b, u⟩ := x; change List UInt8 at a b
  obtain ⟨ha, hb⟩ : a.length ≤ 16777216 ∧ b.length ≤ 16777216 := hp
  refine FnOk_intro [.one .w] Try.func49 rfl ?_
  intro hw C hC
  have hl : (a.take b.length).length ≤ 16777216 := by rw [List.length_take]; omega
  refine ACode_ok (τ := tau) (CtrOk.add f87_ok rfl (noC_ok : CtrsOk Try.prog noC)) mixed _ _ _ ?_
  by_cases h : b.length ≤ a.length
  · simp [Try.f49, wHasP, wBEq, maxB, ha, hb, hl, h]
    repeat' (first | with_reducible refine And.intro ?_ ?_ | with_reducible intro _)
    all_goals first
      | omega
      | (simp [↓retQ_ret, ↓retQ_normal, hasP]; done)
      | trace_state
  · have e : hasP a b = false := by
      unfold hasP
      refine decide_eq_false fun e => ?_
      have := congrArg List.length e
      rw [List.length_take] at this; omega
    simp [Try.f49, wHasP, wBEq, maxB, ha, hb, hl, h]
    repeat' (first | with_reducible refine And.intro ?_ ?_ | with_reducible intro _)
    all_goals first
      | omega
      | (simp [↓retQ_ret, ↓retQ_normal, e]; done)
      | trace_state
def wOff : Spec [(false, .int .i64)] := ⟨fun _ => True, fun x _ => .bool (inB x.1 0 1000000000), fun _ => []⟩
theorem f36_ok : FSpecOk Try.prog 36 wOff := by
  intro x n hp
  obtain ⟨a, u⟩ := x; change Int at a
  refine FnOk_intro [.one .w] Try.func36 rfl ?_
  intro hw C hC
  refine ACode_ok (τ := tau) (noC_ok : CtrsOk Try.prog noC) mixed _ _ _ ?_
  simp [Try.f36, wOff, inB]
  simp [↓retQ_ret, ↓retQ_normal]
/-- What is read so far, and then the rest. -/
def comb {α : Type} (pre : List α) (X : List α × Int × Int) : List α × Int × Int := if X.2.2 ≠ 0 then ([], 0, X.2.2) else (pre ++ X.1, X.2.1, 0)
theorem comb_row (b : List UInt8) (fs : List FldX) (a : Int) : comb [] (rowR b fs a) = rowR b fs a := by
  cases fs with
  | nil => rfl
  | cons f fs =>
    unfold comb rowR
    repeat' split
    all_goals simp_all
theorem comb_items (k : Int) (b : List UInt8) (n : Nat) (a : Int) : comb [] (itemsR k b n a) = itemsR k b n a := by
  cases n with
  | zero => rfl
  | succ n =>
    unfold comb itemsR
    repeat' split
    all_goals simp_all
theorem comb_row_bad {pre : List ValX} {b : List UInt8} {f : FldX} {fs : List FldX} {a : Int} (h : (fieldR f b a).2.2 ≠ 0) : comb pre (rowR b (f :: fs) a) = ([], 0, (fieldR f b a).2.2) := by
  unfold comb rowR; rw [if_pos h]; simp [h]
theorem comb_row_step {pre : List ValX} {b : List UInt8} {f : FldX} {fs : List FldX} {a : Int} (h : (fieldR f b a).2.2 = 0) : comb pre (rowR b (f :: fs) a) = comb (pre ++ [(fieldR f b a).1]) (rowR b fs (fieldR f b a).2.1) := by
  unfold comb
  conv => lhs; unfold rowR
  by_cases h2 : (rowR b fs (fieldR f b a).2.1).2.2 = 0
  · simp [h, h2]
  · simp [h, h2]
theorem comb_item_bad {pre : List ItX} {k : Int} {b : List UInt8} {n : Nat} {a : Int} (h : (itemR k b a).2.2 ≠ 0) : comb pre (itemsR k b (n + 1) a) = ([], 0, (itemR k b a).2.2) := by
  unfold comb itemsR; rw [if_pos h]; simp [h]
theorem comb_item_step {pre : List ItX} {k : Int} {b : List UInt8} {n : Nat} {a : Int} (h : (itemR k b a).2.2 = 0) : comb pre (itemsR k b (n + 1) a) = comb (pre ++ [(itemR k b a).1]) (itemsR k b n (itemR k b a).2.1) := by
  unfold comb
  conv => lhs; unfold itemsR
  by_cases h2 : (itemsR k b n (itemR k b a).2.1).2.2 = 0
  · simp [h, h2]
  · simp [h, h2]
theorem drop_nth {T : Ty} {xs : List T.D} {i : Nat} (h : i < xs.length) : xs.drop i = nth T xs i :: xs.drop (i + 1) := by
  rw [List.drop_eq_getElem_cons h]
  unfold nth
  rw [List.getD_eq_getElem?_getD, List.getElem?_eq_getElem h]; rfl
def readV (id : Int) (s : T32.D) (b : List UInt8) : List ValX × Int :=
  if schemaB s = true ∧ inB id 0 1000000000 = true then
    if hasP b (putL id) = true then
      let r := rowR b s.2 (putL id).length
      if r.2.2 ≠ 0 then ([], r.2.2) else if r.2.1 < b.length then ([], 4) else (r.1, 0)
    else ([], 1)
  else ([], 3)
def wRead : Spec [(false, .int .i64), (true, T32), (false, .sl .byte)] := ⟨fun x => x.2.2.1.length ≤ 16777216, fun x n => .tup [.osl n (readV x.1 x.2.1 x.2.2.1).1.length, .int .i64 (readV x.1 x.2.1 x.2.2.1).2], fun x => [.deep D70 70 (readV x.1 x.2.1 x.2.2.1).1]⟩
theorem AWp_loopR {P : Program} {C : Ctx} {α : Type} {c : Code} {S : St} {Q : AExit → St → Prop} (St' : α → St) (μ : α → Nat) (I : α → Prop) (x0 : α) (ps0 : List Nat) (h0 : (∀ i, i < C.L0.length → ps0[i]? = some i) ∧ St.le ps0 S (St' x0)) (hI0 : I x0)
    (round : ∀ x, I x → AWp P C c (St' x) (thenQ (fun S' => ∃ y ps, I y ∧ μ y < μ x ∧ (∀ i, i < C.L0.length → ps[i]? = some i) ∧ St.le ps S' (St' y)) Q)) : AWp P C (.loop c) S Q := by
  refine AWp_sub ps0 h0.1 h0.2 (AWp_loop St' μ I (fun x hx => ?_) x0 hI0)
  refine (round x hx).mono fun e S' hq => ?_
  cases e with
  | normal =>
    obtain ⟨y, ps, h1, h2, h4, h3⟩ := hq
    exact ⟨y, h1, h2, fun Φ L a w hc => ⟨_, _, hc.sub h4 h3⟩⟩
  | exit i => exact hq
  | ret => exact hq
theorem AWp_cutR {α : Type} {P : Program} {C : Ctx} {x y : Code} {S : St} {Q : AExit → St → Prop} (S1 : α → St) (F : α → Prop)
    (h1 : AWp P C x S (thenQ (fun S' => ∃ z ps, F z ∧ (∀ i, i < C.L0.length → ps[i]? = some i) ∧ St.le ps S' (S1 z)) Q)) (h2 : ∀ z, F z → AWp P C y (S1 z) Q) : AWp P C (.seq x y) S Q := by
  refine AWp_seq (h1.mono fun e S' hq => ?_)
  cases e with
  | normal =>
    obtain ⟨z, ps, h1, h2', h3⟩ := hq
    exact AWp_sub ps h2' h3 (h2 z h1)
  | exit i => exact hq
  | ret => exact hq
theorem schema_kind {s : T32.D} (h : schemaB s = true) {i : Nat} (hi : i < s.2.length) : inB (nth T73 s.2 i).2.1 1 4 = true := by
  simp only [schemaB, Bool.and_eq_true] at h
  have h := (all_nth (T := T73)).1 h.1.1.2 i hi
  simp only [fieldB1, Bool.and_eq_true] at h
  exact h.1.1
theorem schema_len20 {s : T32.D} (h : schemaB s = true) : s.2.length ≤ 20 := by
  simp only [schemaB, Bool.and_eq_true] at h
  have h := h.1.1.1.2
  simp [inB] at h; omega
end Go.Proofs.Ythojapklndjidaa
