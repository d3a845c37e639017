/- All quiet operations together; calls that hand back plain words. -/
import Derived.Test.YthojapklndjidaaSy6
namespace Go.Proofs.Ythojapklndjidaa
open Go Go.RowKit
set_option linter.unusedVariables false
set_option linter.all false

section
variable {P : Program} {C : Ctx} {Φ : Nat → Option Obj} {L : Locs} {H : List AObj} {w : World}

/-! ### Builtins -/

def lenQ (ti : TI) : AV → Option QR
  | .str s => match ti.kind with
    | .str => some ⟨True, s.length ≤ 9223372036854775807, .int .i64 (s.length : Int)⟩
    | _ => none
  | .sl T xs => match ti.kind with
    | .sl _ => some ⟨True, xs.length ≤ 9223372036854775807, .int .i64 (xs.length : Int)⟩
    | _ => none
  | .osl _ n => match ti.kind with
    | .sl _ => some ⟨True, n ≤ 9223372036854775807, .int .i64 (n : Int)⟩
    | _ => none
  | .nilsl => match ti.kind with
    | .sl _ => some ⟨True, True, .int .i64 0⟩
    | _ => none
  | _ => none

theorem inR_len {n : Nat} (h : n ≤ maxB) : inR .i64 (n : Int) := by unfold maxB at h; simp [inR]; omega

theorem lenQ_ok {t ty : TypeId} {ti : TI} (ht : tinfo P t = some ti) {x : AV} {r : QR} (h : lenQ ti x = some r) {u : Value} (hu : CVal Φ L x u) :
    ∃ v, CVal Φ L r.av v ∧ r.post ∧ ∀ w', (Builtin.len_ #[t] ty #[u]).run P w' = .ok v w' := by
  unfold lenQ at h
  split at h
  · rename_i s
    split at h
    · rename_i hk
      simp only [Option.some.injEq] at h; subst h
      cases hu; rename_i hs
      refine ⟨_, .int _ _ (inR_len hs), hs, fun w' => ?_⟩
      have hsz : (⟨s.toArray⟩ : ByteArray).size = s.length := by simp [ByteArray.size]
      simp [Builtin.len_, run_underlying (tinfo_str ht hk), goInt, hsz]
    · cases h
  · split at h
    · rename_i T xs e hk
      simp only [Option.some.injEq] at h; subst h
      cases hu with
      | sl _ _ _ hr =>
        obtain ⟨A, cap, hv, hl, hc, hx⟩ := id hr
        simp only [List.cons.injEq, and_true] at hv
        subst hv
        refine ⟨_, .int _ _ (inR_len (Nat.le_trans hl hc)), Nat.le_trans hl hc, fun w' => ?_⟩
        simp [Builtin.len_, run_underlying (tinfo_sl ht hk), goInt]
    · cases h
  · split at h
    · rename_i β n e hk
      simp only [Option.some.injEq] at h; subst h
      cases hu with
      | osl _ _ g cap hl hn hc =>
        refine ⟨_, .int _ _ (inR_len (Nat.le_trans hn hc)), Nat.le_trans hn hc, fun w' => ?_⟩
        simp [Builtin.len_, run_underlying (tinfo_sl ht hk), goInt]
      | oslnil _ _ hl hn =>
        subst hn
        refine ⟨_, .int _ _ (inR_len (Nat.zero_le _)), Nat.zero_le _, fun w' => ?_⟩
        simp [Builtin.len_, run_underlying (tinfo_sl ht hk), goInt]
    · cases h
  · split at h
    · rename_i e hk
      simp only [Option.some.injEq] at h; subst h
      cases hu
      refine ⟨_, .int _ _ (inR_len (n := 0) (Nat.zero_le _)), trivial, fun w' => ?_⟩
      simp [Builtin.len_, run_underlying (tinfo_sl ht hk), goInt]
    · cases h
  · cases h

def maxQ : List AV → Option QR
  | [.int k a, .int k' b] => if k = k' then some ⟨True, True, .int k (max a b)⟩ else none
  | _ => none
def minQ : List AV → Option QR
  | [.int k a, .int k' b] => if k = k' then some ⟨True, True, .int k (min a b)⟩ else none
  | _ => none

theorem inR_ite {k : IntKind} {a b : Int} (ha : inR k a) (hb : inR k b) (c : Prop) [Decidable c] : inR k (if c then a else b) := by split <;> assumption

theorem maxQ_ok {ts : Array TypeId} {ty : TypeId} {a b : AV} {r : QR} (h : maxQ [a, b] = some r) {u v : Value} (hu : CVal Φ L a u) (hv : CVal Φ L b v) :
    ∃ z, CVal Φ L r.av z ∧ r.post ∧ ∀ w', (Builtin.max_ ts ty #[u, v]).run P w' = .ok z w' := by
  unfold maxQ at h
  split at h
  · rename_i k a' k' b' heq
    simp only [List.cons.injEq, and_true] at heq
    obtain ⟨rfl, rfl⟩ := heq
    split at h
    · rename_i hk; subst hk
      simp only [Option.some.injEq] at h; subst h
      cases hu; cases hv; rename_i ha hb
      have e : max a' b' = if b' > a' then b' else a' := by split <;> omega
      refine ⟨_, .int _ _ (by rw [e]; exact inR_ite hb ha _), trivial, fun w' => ?_⟩
      rw [e]; rfl
    · cases h
  · cases h

theorem minQ_ok {ts : Array TypeId} {ty : TypeId} {a b : AV} {r : QR} (h : minQ [a, b] = some r) {u v : Value} (hu : CVal Φ L a u) (hv : CVal Φ L b v) :
    ∃ z, CVal Φ L r.av z ∧ r.post ∧ ∀ w', (Builtin.min_ ts ty #[u, v]).run P w' = .ok z w' := by
  unfold minQ at h
  split at h
  · rename_i k a' k' b' heq
    simp only [List.cons.injEq, and_true] at heq
    obtain ⟨rfl, rfl⟩ := heq
    split at h
    · rename_i hk; subst hk
      simp only [Option.some.injEq] at h; subst h
      cases hu; cases hv; rename_i ha hb
      have e : min a' b' = if b' < a' then b' else a' := by split <;> omega
      refine ⟨_, .int _ _ (by rw [e]; exact inR_ite hb ha _), trivial, fun w' => ?_⟩
      rw [e]; rfl
    · cases h
  · cases h

/-! ### A struct's value out of its parts -/

def splice (cs : List AV) (off : Nat) (vs : List AV) : List AV := cs.take off ++ vs ++ cs.drop (off + vs.length)
def cellsA : AV → List AV
  | .agg cs => cs
  | v => [v]
def fillA (fs : List (Nat × Nat × TypeId)) (cs : List AV) : List (Nat × AV) → Option (List AV)
  | [] => some cs
  | (i, v) :: rest => match fs[i]? with
    | none => none
    | some (o, s, _) => if (cellsA v).length = s ∧ o + s ≤ cs.length then fillA fs (splice cs o (cellsA v)) rest else none

def isCell : AV → Bool
  | .tup _ => false
  | .any => false
  | .opt _ _ => false
  | _ => true

def buildQ (ti : TI) (parts : List (Nat × AV)) : Option QR :=
  match ti.kind, ti.zero with
  | .st fs, some z => if ti.ok = true ∧ parts.all (fun p => isCell p.2) = true then match fillA fs z parts with
    | some cs => some ⟨True, True, .agg cs⟩
    | none => none else none
  | _, _ => none

theorem CVal.one {c : AV} {v : Value} (h : CVal Φ L c v) (hc : isCell c = true) (hagg : ∀ cs, c ≠ .agg cs) : v.oneCell' = true := by
  cases h <;> simp [isCell] at hc <;> first | rfl | exact absurd rfl (hagg _) | skip
  rename_i T xs hr
  obtain ⟨A, cap, hv, _⟩ := hr
  simp only [List.cons.injEq, and_true] at hv
  subst hv; rfl

theorem cellsA_ok {c : AV} {v : Value} (h : CVal Φ L c v) (hc : isCell c = true) : CVals Φ L (cellsA c) v.cells.toList := by
  by_cases hagg : ∃ cs, c = .agg cs
  · obtain ⟨cs, rfl⟩ := hagg
    cases h with
    | agg _ vs h1 h2 h3 => exact CVals.of_agg (.agg _ _ h1 h2 h3)
  · have h1 := h.one hc fun cs e => hagg ⟨cs, e⟩
    have hv : v.cells.toList = [v] := by cases v <;> first | rfl | (simp [Value.oneCell'] at h1)
    have hca : cellsA c = [c] := by cases c <;> first | rfl | (exact absurd ⟨_, rfl⟩ hagg)
    rw [hv, hca]
    exact .cons h1 h .nil

theorem foldl_set {off : Nat} : ∀ (vs : List Value) (k : Nat) (cs : Array Value), off + k + vs.length ≤ cs.size →
    ((vs.zipIdx k).foldl (fun cs (c : Value × Nat) => cs.setIfInBounds (off + c.2) c.1) cs).toList = cs.toList.take (off + k) ++ vs ++ cs.toList.drop (off + k + vs.length)
  | [], k, cs, h => by simp
  | v :: vs, k, cs, h => by
    rw [List.zipIdx_cons, List.foldl_cons, foldl_set vs (k + 1) _ (by simp at h ⊢; omega)]
    simp only [Array.toList_setIfInBounds]
    have hlt : off + k < cs.toList.length := by simp at h ⊢; omega
    rw [List.take_set, List.drop_set_of_lt (by omega)]
    rw [show off + (k + 1) = (off + k) + 1 by omega, List.take_succ_eq_append_getElem hlt, List.set_append_right _ _ (by simp; omega)]
    simp only [List.length_take, Nat.min_eq_left (Nat.le_of_lt hlt), Nat.sub_self, List.set_cons_zero, List.append_assoc, List.cons_append, List.nil_append, List.length_cons]
    rw [show off + k + 1 + vs.length = off + k + (vs.length + 1) by omega]

theorem fillA_ok {place : Nat → Option (Nat × Nat)} {fs : List (Nat × Nat × TypeId)} (hplace : ∀ i o s t, fs[i]? = some (o, s, t) → place i = some (o, s)) :
    ∀ {parts : List (Nat × AV)} {vparts : List (Nat × Value)} {cs ds : List AV} {vs : Array Value}, CVals Φ L cs vs.toList → fillA fs cs parts = some ds →
      vparts.length = parts.length → (∀ (j : Nat) p q, parts[j]? = some p → vparts[j]? = some q → p.1 = q.1 ∧ CVal Φ L p.2 q.2 ∧ isCell p.2 = true) →
      ∃ ws, Instr.fill place vs vparts = some ws ∧ CVals Φ L ds ws.toList := by
  intro parts
  induction parts with
  | nil =>
    intro vparts cs ds vs hc hf hl hp
    cases vparts with
    | nil => simp only [fillA, Option.some.injEq] at hf; subst hf; exact ⟨vs, rfl, hc⟩
    | cons q r => simp at hl
  | cons p parts ih =>
    intro vparts cs ds vs hc hf hl hp
    cases vparts with
    | nil => simp at hl
    | cons q r =>
      obtain ⟨i, x⟩ := p
      obtain ⟨i', v⟩ := q
      obtain ⟨rfl, hv, hcell⟩ := hp 0 _ _ rfl rfl
      simp only at hv hcell
      simp only [fillA] at hf
      split at hf
      · cases hf
      · rename_i o s t hfs
        split at hf
        · rename_i hs
          have hcv := cellsA_ok hv hcell
          have hsz : v.cells.size = s := by have h' := hcv.1; rw [Array.length_toList] at h'; omega
          have hcs : vs.size = cs.length := by have h' := hc.1; rw [Array.length_toList] at h'; exact h'
          have hle : o + v.cells.size ≤ vs.size := by omega
          have hfold := foldl_set (off := o) v.cells.toList 0 vs (by simpa using hle)
          simp only [Nat.add_zero] at hfold
          obtain ⟨ws, h1, h2⟩ := ih (vs := (v.cells.toList.zipIdx 0).foldl (fun cs (c : Value × Nat) => cs.setIfInBounds (o + c.2) c.1) vs) (vparts := r) (by
            rw [hfold]
            refine CVals.append (CVals.append ?_ hcv) ?_
            · have := hc.sub 0 o; simpa using this
            · have h2 := hc.sub (o + (cellsA x).length) cs.length
              have hcl := hc.1
              have e1 : (cs.drop (o + (cellsA x).length)).take cs.length = cs.drop (o + (cellsA x).length) := List.take_of_length_le (by rw [List.length_drop]; omega)
              have e2 : (vs.toList.drop (o + (cellsA x).length)).take cs.length = vs.toList.drop (o + (cellsA x).length) := List.take_of_length_le (by rw [List.length_drop, Array.length_toList]; omega)
              rw [e1, e2] at h2
              have e : v.cells.toList.length = (cellsA x).length := hcv.1
              rw [e]; exact h2) hf (by simpa using hl) (fun j p q hj hj' => hp (j + 1) p q (by simpa using hj) (by simpa using hj'))
          refine ⟨ws, ?_, h2⟩
          have hz : v.cells.zipIdx.foldl (fun cs (x : Value × Nat) => cs.setIfInBounds (o + x.2) x.1) vs = (v.cells.toList.zipIdx 0).foldl (fun cs (c : Value × Nat) => cs.setIfInBounds (o + c.2) c.1) vs := by
            rw [← Array.foldl_toList]; simp
          simp only [Instr.fill, hplace i o s t hfs]
          split
          · rename_i hx
            simp [hsz] at hx; omega
          · rw [← h1]
            congr 1
        · cases hf
end
end Go.Proofs.Ythojapklndjidaa
