/- Slices that the call makes. -/
import Derived.Test.YthojapklndjidaaSy10
import Derived.Lib.AppendStr
namespace Go.Proofs.Ythojapklndjidaa
open Go Go.RowKit
set_option linter.unusedVariables false
set_option linter.all false

section
variable {P : Program} {C : Ctx} {Φ : Nat → Option Obj} {L : Locs} {H : List AObj} {w : World}

theorem RepL.of_get {T : Ty} : ∀ {xs : List T.D} {cells : List Value}, cells.length = xs.length * T.size → (∀ (i : Nat) (h : i < xs.length), ∃ ws, RepT Φ T (xs[i]'h) ws ∧ ∀ (j : Nat) (v : Value), ws[j]? = some v → cells[i * T.size + j]? = some v) → RepL Φ T xs cells
  | [], cells, hl, _ => by
    have : cells = [] := List.eq_nil_of_length_eq_zero (by simpa using hl)
    exact this
  | x :: xs, cells, hl, hg => by
    have hl' : cells.length = xs.length * T.size + T.size := by rw [hl, List.length_cons, Nat.succ_mul]
    obtain ⟨ws, h1, h2⟩ := hg 0 (by simp)
    have hwl := h1.length
    have e : cells.take T.size = ws := by
      apply List.ext_getElem?
      intro j
      rw [List.getElem?_take]
      by_cases hj : j < T.size
      · have hw : ws[j]? = some (ws[j]'(by omega)) := List.getElem?_eq_getElem _
        have := h2 j _ hw
        rw [Nat.zero_mul, Nat.zero_add] at this
        rw [if_pos hj, this, hw]
      · rw [if_neg hj, List.getElem?_eq_none (by omega)]
    refine ⟨cells.take T.size, cells.drop T.size, (List.take_append_drop _ _).symm, by rw [e]; exact h1, RepL.of_get (by rw [List.length_drop]; omega) fun i hi => ?_⟩
    obtain ⟨us, h3, h4⟩ := hg (i + 1) (by simp; omega)
    refine ⟨us, h3, fun j v hj => ?_⟩
    rw [List.getElem?_drop]
    have := h4 j v hj
    rwa [show T.size + (i * T.size + j) = (i + 1) * T.size + j by rw [Nat.succ_mul]; omega]

theorem RepL.append {T : Ty} : ∀ {xs ys : List T.D} {cs ds : List Value}, RepL Φ T xs cs → RepL Φ T ys ds → RepL Φ T (xs ++ ys) (cs ++ ds)
  | [], ys, cs, ds, h, k => by have h : cs = [] := h; subst h; exact k
  | x :: xs, ys, cs, ds, h, k => by
    obtain ⟨v1, v2, rfl, h1, h2⟩ := h
    exact ⟨v1, v2 ++ ds, by simp, h1, RepL.append h2 k⟩

theorem RepL.take {T : Ty} : ∀ {xs : List T.D} {cs : List Value}, RepL Φ T xs cs → ∀ n, RepL Φ T (xs.take n) (cs.take (n * T.size))
  | [], cs, h, n => by have h : cs = [] := h; subst h; simp [RepL]
  | x :: xs, cs, h, 0 => by simp [RepL]
  | x :: xs, cs, h, n + 1 => by
    obtain ⟨v1, v2, rfl, h1, h2⟩ := h
    have hl := h1.length
    refine ⟨v1, v2.take (n * T.size), ?_, h1, RepL.take h2 n⟩
    rw [Nat.succ_mul, Nat.add_comm, ← hl, List.take_length_add_append]

theorem RepL.one {T : Ty} : ∀ {xs : List T.D} {cs : List Value}, RepL Φ T xs cs → ∀ v ∈ cs, v.oneCell' = true
  | [], cs, h, v, hv => by have h : cs = [] := h; subst h; cases hv
  | x :: xs, cs, h, v, hv => by
    obtain ⟨v1, v2, rfl, h1, h2⟩ := h
    rcases List.mem_append.1 hv with hv | hv
    · have hc : CVals Φ [] (flat T x) v1 := CVals.of_rep h1
      obtain ⟨j, hj, rfl⟩ := List.mem_iff_getElem.1 hv
      exact (hc.2 j _ _ (List.getElem?_eq_getElem (by rw [← hc.1]; exact hj)) (List.getElem?_eq_getElem hj)).1
    · exact RepL.one h2 v hv

/-- Where the data of a source lie. -/
def Src (Φ : Nat → Option Obj) (w : World) (T : Ty) (ys : List T.D) (v : Value) : Prop :=
  ∃ news, RepL Φ T ys news ∧ ((∃ A c, v = .slice A 0 c ∧ ys = []) ∨ ∃ b o c, v = .slice (some ⟨b, o, none⟩) ys.length c ∧ ∀ (j : Nat) u, news[j]? = some u → w.cell? ⟨b, o + j, none⟩ = some u)

def castL {T T' : Ty} (h : T' = T) (xs : List T'.D) : List T.D := cast (congrArg (fun e => List (Ty.D e)) h) xs
@[simp] theorem castL_rfl {T : Ty} (h : T = T) (xs : List T.D) : castL h xs = xs := rfl

def srcOf (T : Ty) (H : List AObj) : AV → Option (Prop × List T.D)
  | .sl T' xs => if h : T' = T then some (True, castL h xs) else none
  | .osl δ m => match H[δ]? with
    | some (.arr T' _ xs) => if h : T' = T then some (m ≤ xs.length, (castL h xs).take m) else none
    | some (.frz T' xs) => if h : T' = T then some (m ≤ xs.length, (castL h xs).take m) else none
    | _ => none
  | .nilsl => some (True, [])
  | _ => none

theorem src_of_rep (hI : Inv C Φ L H w) {T : Ty} {ys : List T.D} {v : Value} (hr : RepT Φ (.sl T) ys [v]) : Src Φ w T ys v := by
  obtain ⟨A, cap, hv, hl, hm, hx⟩ := id hr
  simp only [List.cons.injEq, and_true] at hv
  subst hv
  rcases hx with hx | ⟨b, o, cs, t, fz, rfl, hb, hx⟩
  · have : ys = [] := List.eq_nil_of_length_eq_zero hx
    subst this
    exact ⟨[], rfl, .inl ⟨A, cap, rfl, rfl⟩⟩
  · refine ⟨(cs.toList.drop o).take (ys.length * T.size), RepL.of_get ?_ fun i hi => ?_, .inr ⟨b, o, cap, rfl, fun j u hj => ?_⟩⟩
    · simp only [List.length_take, List.length_drop, Array.length_toList]
      by_cases h0 : T.size = 0
      · simp [h0]
      · by_cases h1 : ys.length = 0
        · simp [h1]
        · obtain ⟨ws, h2, h3⟩ := hx (ys.length - 1) (by omega)
          have hwl := h2.length
          have hw : ws[T.size - 1]? = some (ws[T.size - 1]'(by omega)) := List.getElem?_eq_getElem _
          have := h3 _ _ hw
          have hlt := (Array.getElem?_eq_some_iff.1 this).1
          have e : (ys.length - 1) * T.size + T.size = ys.length * T.size := by rw [← Nat.succ_mul]; congr 1; omega
          omega
    · obtain ⟨ws, h2, h3⟩ := hx i hi
      refine ⟨ws, h2, fun j v hj => ?_⟩
      have hwl := h2.length
      have hjl : j < ws.length := (List.getElem?_eq_some_iff.1 hj).1
      have hb : i * T.size + T.size ≤ ys.length * T.size := by rw [← Nat.succ_mul]; exact Nat.mul_le_mul_right _ hi
      rw [List.getElem?_take, if_pos (by omega), List.getElem?_drop]
      simpa using h3 j v hj
    · rw [List.getElem?_take] at hj
      split at hj
      · rw [hI.cell_frz hb, ← hj, List.getElem?_drop]; simp
      · cases hj

theorem hdr_osl {β n : Nat} {v : Value} {l : Option (Nat × Nat)} (hv : CVal Φ L (.osl β n) v) (hl : L[β]? = some l) : v = hdr l n ∧ (l = none → n = 0) := by
  cases hv with
  | osl _ _ g cap h1 h2 h3 => rw [hl] at h1; simp only [Option.some.injEq] at h1; subst h1; exact ⟨rfl, fun h => by simp at h⟩
  | oslnil _ _ h1 h2 => rw [hl] at h1; simp only [Option.some.injEq] at h1; subst h1; exact ⟨rfl, fun _ => h2⟩

theorem srcOf_ok (hI : Inv C Φ L H w) {T : Ty} {x : AV} {p : Prop} {ys : List T.D} (h : srcOf T H x = some (p, ys)) (hp : p) {v : Value} (hv : CVal Φ L x v) : Src Φ w T ys v := by
  unfold srcOf at h
  split at h
  · rename_i T' xs
    split at h
    · rename_i hT; subst hT
      simp only [Option.some.injEq, Prod.mk.injEq] at h
      obtain ⟨rfl, rfl⟩ := h
      cases hv with
      | sl _ _ _ hr => exact src_of_rep hI hr
    · cases h
  · rename_i δ m
    split at h
    · rename_i T' e xs ho
      split at h
      · rename_i hT; subst hT
        simp only [Option.some.injEq, Prod.mk.injEq, castL_rfl] at h
        obtain ⟨rfl, rfl⟩ := h
        obtain ⟨l, cells, hl, hown, hr⟩ := hI.row ho
        obtain ⟨rfl, h0⟩ := hdr_osl hv hl
        have hlen : (xs.take m).length = m := by simp; omega
        refine ⟨cells.take (m * T'.size), hr.take m, ?_⟩
        rcases hown.2 with ⟨hn, hz⟩ | ⟨g, cap, cur, hv', _, hg, hle, hmx, hcs, htake⟩
        · cases l with
          | some q => obtain ⟨a, b⟩ := q; simp [hdr] at hn
          | none => have := h0 rfl; subst this; exact .inl ⟨none, 0, rfl, by simp⟩
        · cases l with
          | none => simp [hdr] at hv'
          | some q =>
            obtain ⟨a, b⟩ := q
            simp only [hdr, Value.slice.injEq, Option.some.injEq, Addr.mk.injEq] at hv'
            obtain ⟨⟨rfl, _⟩, _, rfl⟩ := hv'
            refine .inr ⟨a, 0, b, by rw [hlen]; rfl, fun j u hj => ?_⟩
            rw [List.getElem?_take] at hj
            split at hj
            · rw [Nat.zero_add, cell_of_row w a j cur e (0, 0) hg]
              rw [← htake, List.getElem?_take] at hj
              split at hj
              · simpa using hj
              · cases hj
            · cases hj
      · cases h
    · rename_i T' xs ho
      split at h
      · rename_i hT; subst hT
        simp only [Option.some.injEq, Prod.mk.injEq, castL_rfl] at h
        obtain ⟨rfl, rfl⟩ := h
        have := hI.frozen ho m v hp hv
        cases this with
        | sl _ _ _ hr => exact src_of_rep hI hr
      · cases h
    · cases h
  · simp only [Option.some.injEq, Prod.mk.injEq] at h
    obtain ⟨rfl, rfl⟩ := h
    cases hv
    exact ⟨[], rfl, .inl ⟨none, 0, rfl, rfl⟩⟩
  · cases h

/-- An array of the call's own is gone; its block may have been written. -/
theorem Inv0.kill (h : Inv0 C Φ L H w) {γ : Nat} {T : Ty} {e : TypeId} {xs : List T.D} {l : Option (Nat × Nat)} (ho : H[γ]? = some (.arr T e xs)) (hl : L[γ]? = some l) {w' : World}
    (hw : w.grownBy w' (hdr l xs.length).ownBlock) : Inv0 C Φ L (H.set γ .dead) w' := by
  have hlt : γ < H.length := (List.getElem?_eq_some_iff.1 ho).1
  have hne : ∀ b, (∀ cap, l ≠ some (b, cap)) → b < w.heap.size → w'.heap[b]? = w.heap[b]? := fun b hb hlt => hw.block b hlt fun e => by
    cases l with
    | none => simp [hdr, Value.ownBlock] at e
    | some p => obtain ⟨g, c⟩ := p; simp [hdr, Value.ownBlock] at e; subst e; exact hb c rfl
  constructor
  · simp [h.len]
  · intro b x hb
    rw [hne b (fun cap e => by subst e; have := (h.own γ _ b cap ho rfl hl).1; rw [this] at hb; cases hb) (lt_of_block (h.frz b x hb))]; exact h.frz b x hb
  · exact h.base
  · exact h.glob
  · exact h.fresh
  · exact hw.os.trans h.os
  · exact hw.tape.trans h.tape
  · exact hw.output.trans h.output
  · exact Nat.le_trans h.size hw.size
  · intro b hlt hW
    rw [hne b (fun cap e => by subst e; rcases (h.own γ _ b cap ho rfl hl).2 with hB | hB; omega; exact hW hB) (Nat.lt_of_lt_of_le hlt h.size)]; exact h.keep b hlt hW
  · intro δ x hδ
    by_cases he : δ = γ
    · subst he
      rw [List.getElem?_set_self hlt] at hδ
      simp only [Option.some.injEq] at hδ; subst hδ
      exact ⟨_, hl, trivial⟩
    · rw [List.getElem?_set_ne (Ne.symm he)] at hδ
      obtain ⟨l', hl', hk'⟩ := h.obj δ x hδ
      refine ⟨l', hl', hk'.keep fun g' cap' hlv hlg hlt' => hne g' (fun cap e => ?_) hlt'⟩
      subst e; subst hlg
      exact h.inj δ γ x _ g' cap' cap he hδ hlv ho rfl hl' hl
  · intro δ x g' cap' hδ hlv hlg
    by_cases he : δ = γ
    · subst he
      rw [List.getElem?_set_self hlt] at hδ
      simp only [Option.some.injEq] at hδ; subst hδ; cases hlv
    · rw [List.getElem?_set_ne (Ne.symm he)] at hδ
      exact h.own δ x g' cap' hδ hlv hlg
  · intro δ ε x y g' c1 c2 hne hδ hlx hε hly e1 e2
    have back : ∀ (ζ : Nat) z, (H.set γ .dead)[ζ]? = some z → z.live = true → H[ζ]? = some z := fun ζ z hz hlz => by
      by_cases he : ζ = γ
      · subst he
        rw [List.getElem?_set_self hlt] at hz
        simp only [Option.some.injEq] at hz; subst hz; cases hlz
      · rw [List.getElem?_set_ne (Ne.symm he)] at hz; exact hz
    exact h.inj δ ε x y g' c1 c2 hne (back δ x hδ hlx) hlx (back ε y hε hly) hly e1 e2
  · exact h.pre

def appendE (P : Program) (τ : TypeId → Option Ty) (H : List AObj) (e : TypeId) (te : TI) (s x : AV) : Option ER :=
  match s with
  | .nilsl => match τ e with
    | some T => match srcOf T H x with
      | some (p, ys) => if te.ok = true ∧ te.size = T.size ∧ 0 < T.size then some ⟨p ∧ ys.length ≤ 9223372036854775807 ∧ ys.length * te.bytes ≤ 140737488355328, .osl H.length ys.length, H ++ [.arr T e ys]⟩ else none
      | none => none
    | none => none
  | .osl β n => match H[β]? with
    | some (.arr T e' xs) => match srcOf T H x with
      | some (p, ys) => if e' = e ∧ te.ok = true ∧ te.size = T.size ∧ 0 < T.size then
          some ⟨p ∧ n ≤ xs.length ∧ n + ys.length ≤ 9223372036854775807 ∧ (n + ys.length) * te.bytes ≤ 140737488355328, .osl H.length (xs.take n ++ ys).length, (H.set β .dead) ++ [.arr T e (xs.take n ++ ys)]⟩
        else none
      | none => none
    | _ => none
  | _ => none

theorem run_append_none' {t ty e : TypeId} {i : TypeInfo} {size : Nat} (ht : P.underlying t = some (.slice e)) (hi : P.info? e = some i)
    {v : Value} {n : Nat} {xs : List Value} (hown : w.ownsRow 0 e size v n xs) (A : Option Addr) (c : Nat) :
    (Builtin.append_ #[t, t] ty #[v, .slice A 0 c]).run P w = .ok v w := by
  have hf : ∀ A : Option Addr, (Builtin.firstCells i.size 0 (.slice A 0 c)).run P w = .ok #[] w := fun A => by
    cases A with
    | none => simp [Builtin.firstCells]
    | some a =>
      have := run_loadCells_list (P := P) w a [] (fun j v hj => by simp at hj)
      simp [Builtin.firstCells] at this ⊢; exact this
  rcases hown.2 with ⟨rfl, rfl⟩ | ⟨g, cap, cur, rfl, _, _, hnc, _⟩
  · simp [Builtin.append_, run_underlying ht, sizeOf, typeInfo, hi, Builtin.lenOf, hf]
  · simp [Builtin.append_, run_underlying ht, sizeOf, typeInfo, hi, Builtin.lenOf, hf, hnc, storeCells]

theorem maxLen_eq : maxLen = 9223372036854775807 := rfl
theorem maxB_eq : maxB = 9223372036854775807 := rfl

/-- append, whatever the source. -/
theorem run_append_src (hI : Inv C Φ L H w) {t ty e : TypeId} {te : TI} {T : Ty} (ht : P.underlying t = some (.slice e)) (hte : tinfo P e = some te) (hok : te.ok = true) (hsz : te.size = T.size) (hpos : 0 < T.size)
    {v : Value} {n : Nat} {xs : List T.D} {cells : List Value} (hown : w.ownsRow 0 e T.size v n cells) (hr : RepL Φ T xs cells) {ys : List T.D} {u : Value} (hs : Src Φ w T ys u)
    (h63 : n + ys.length ≤ 9223372036854775807) (hbytes : (n + ys.length) * te.bytes ≤ 140737488355328) :
    ∃ v' w' cells', (Builtin.append_ #[t, t] ty #[v, u]).run P w = .ok v' w' ∧ w'.ownsRow 0 e T.size v' (n + ys.length) cells' ∧ RepL Φ T (xs ++ ys) cells' ∧ w.grownBy w' v.ownBlock ∧ (v'.ownBlock = v.ownBlock ∨ v'.ownBlock = some w.heap.size) := by
  obtain ⟨i, z, hi, hz, his, hib, _, _, _, hzc⟩ := zero_cells (Φ := Φ) (L := L) hte hok
  obtain ⟨news, hrn, hcase⟩ := hs
  rcases hcase with ⟨A, c, rfl, rfl⟩ | ⟨b, o, c, rfl, hcells⟩
  · have hn : news = [] := hrn
    subst hn
    refine ⟨v, w, cells, run_append_none' ht hi hown A c, by simpa using hown, by simpa using hr, ⟨rfl, rfl, rfl, Nat.le_refl _, fun _ _ _ => rfl⟩, .inl rfl⟩
  · have hzs : z.cells.size = T.size := by rw [hzc, hsz]
    obtain ⟨v', w', h1, h2, h3, _, h5⟩ := run_append_own_at (P := P) w 0 t ty e i z T.size te.bytes ht hi hz (by rw [his, hsz]) hib hzs hpos v n cells hown ⟨b, o, none⟩ ys.length c news hrn.length (fun j u hj => by rw [add_none]; exact hcells j u hj) (fun u hu => hrn.one u hu) (by rw [maxLen_eq]; exact h63) hbytes (Nat.zero_le _)
    exact ⟨v', w', _, h1, h2, hr.append hrn, h3, h5⟩

theorem ownsRow_shape {e : TypeId} {size n : Nat} {v : Value} {cells : List Value} (h : w.ownsRow 0 e size v n cells) : ∃ l, v = hdr l n ∧ (l = none → n = 0) ∧ ∀ g cap, l = some (g, cap) → n ≤ cap ∧ cap ≤ maxB := by
  rcases h.2 with ⟨rfl, h0⟩ | ⟨g, cap, cur, rfl, _, _, hle, hm, _⟩
  · exact ⟨none, rfl, fun _ => h0, fun g cap h => by simp at h⟩
  · exact ⟨some (g, cap), rfl, fun h => by simp at h, fun g' cap' h => by simp only [Option.some.injEq, Prod.mk.injEq] at h; obtain ⟨rfl, rfl⟩ := h; exact ⟨hle, hm⟩⟩

theorem osl_of_hdr {β n : Nat} {l : Option (Nat × Nat)} (hl : L[β]? = some l) (h0 : l = none → n = 0) (h1 : ∀ g cap, l = some (g, cap) → n ≤ cap ∧ cap ≤ maxB) : CVal Φ L (.osl β n) (hdr l n) := by
  cases l with
  | none => exact .oslnil β n hl (h0 rfl)
  | some p => obtain ⟨g, cap⟩ := p; exact .osl β n g cap hl (h1 g cap rfl).1 (h1 g cap rfl).2

theorem ownsRow_take {e : TypeId} {size n m : Nat} {l : Option (Nat × Nat)} {cells : List Value} (h : w.ownsRow 0 e size (hdr l n) n cells) (hm : m ≤ n) (h0 : l = none → m = 0) : w.ownsRow 0 e size (hdr l m) m (cells.take (m * size)) := by
  have hb : m * size ≤ n * size := Nat.mul_le_mul_right _ hm
  refine ⟨by rw [List.length_take, h.1]; omega, ?_⟩
  rcases h.2 with ⟨hv, hz⟩ | ⟨g, cap, cur, hv, hz, hg, hle, hmx, hcs, htake⟩
  · cases l with
    | some p => obtain ⟨a, b⟩ := p; simp [hdr] at hv
    | none => exact .inl ⟨rfl, h0 rfl⟩
  · cases l with
    | none => simp [hdr] at hv
    | some p =>
      obtain ⟨a, b⟩ := p
      simp only [hdr, Value.slice.injEq, Option.some.injEq, Addr.mk.injEq] at hv
      obtain ⟨⟨rfl, _⟩, _, rfl⟩ := hv
      refine .inr ⟨a, b, cur, rfl, hz, hg, by omega, hmx, hcs, ?_⟩
      rw [← htake, List.take_take, Nat.min_eq_left hb]

theorem appendE_ok (hI : Inv C Φ L H w) {τ : TypeId → Option Ty} {t ty e : TypeId} {te : TI} (ht : P.underlying t = some (.slice e)) (hte : tinfo P e = some te) {s x : AV} {r : ER} (h : appendE P τ H e te s x = some r) (hp : r.pre)
    {v u : Value} (hv : CVal Φ L s v) (hu : CVal Φ L x u) : ∃ v' w', (Builtin.append_ #[t, t] ty #[v, u]).run P w = .ok v' w' ∧ EPost C Φ L r v' w' := by
  unfold appendE at h
  split at h
  · split at h
    · rename_i T hτ
      split at h
      · rename_i p ys hsrc
        split at h
        · rename_i hc
          simp only [Option.some.injEq] at h; subst h
          obtain ⟨hp1, hp2, hp3⟩ := hp
          obtain ⟨hok, hsz, hpos⟩ := hc
          have hs := srcOf_ok hI hsrc hp1 hu
          cases hv
          obtain ⟨v', w', cells', h1, h2, h3, h4, h5⟩ := run_append_src (ty := ty) hI ht hte hok hsz hpos (World.ownsRow_nil w 0 e T.size) (show RepL Φ T [] [] from rfl) hs (by simpa using hp2) (by simpa using hp3)
          simp only [Nat.zero_add, List.nil_append] at h2 h3
          obtain ⟨l, rfl, hl0, hl1⟩ := ownsRow_shape h2
          have hb : Below w.heap.size w w' := ⟨h4.os, h4.tape, h4.output, h4.size, fun k hk => h4.block k hk (by simp [Value.ownBlock])⟩
          refine ⟨_, w', h1, Φ, L ++ [l], More.refl _, Locs.snoc _, ?_, osl_of_hdr (by rw [← hI.len]; simp) hl0 hl1⟩
          refine ⟨(hI.toInv0.below hb).new ⟨cells', h2, h3⟩ fun g cap he hlive => ?_, Deep.new hI hb (l := l) rfl fun g cap he hlive => ?_⟩
          rotate_left
          · subst he
            have : g = w.heap.size := by simpa [hdr, Value.ownBlock] using h5
            omega
          subst he
          have hg : g = w.heap.size := by simpa [hdr, Value.ownBlock] using h5
          subst hg
          refine ⟨?_, .inl hI.size, fun γ o' cap'' hγ hl' e => ?_⟩
          · cases hΦ : Φ w.heap.size with
            | none => rfl
            | some x => have := lt_of_block (hI.frz _ _ hΦ); omega
          · have := hI.lt hγ hl' e; omega
        · cases h
      · cases h
    · cases h
  · rename_i β n
    split at h
    · rename_i T e' xs ho
      split at h
      · rename_i p ys hsrc
        split at h
        · rename_i hc
          simp only [Option.some.injEq] at h; subst h
          obtain ⟨hp1, hn, hp2, hp3⟩ := hp
          obtain ⟨rfl, hok, hsz, hpos⟩ := hc
          have hs := srcOf_ok hI hsrc hp1 hu
          obtain ⟨l, cells, hl, hown, hr⟩ := hI.row ho
          obtain ⟨rfl, h0⟩ := hdr_osl hv hl
          have hlen : (xs.take n).length = n := by simp; omega
          have hown' := ownsRow_take hown hn h0
          obtain ⟨v', w', cells', h1, h2, h3, h4, h5⟩ := run_append_src (ty := ty) hI ht hte hok hsz hpos hown' (hr.take n) hs hp2 hp3
          have e2 : (xs.take n ++ ys).length = n + ys.length := by rw [List.length_append, hlen]
          obtain ⟨l', rfl, hl0, hl1⟩ := ownsRow_shape h2
          have hown2 : (hdr l n).ownBlock = (hdr l xs.length).ownBlock := by cases l <;> rfl
          have hkill := hI.toInv0.kill ho hl (w' := w') (by rw [← hown2]; exact h4)
          have hlt : β < H.length := (List.getElem?_eq_some_iff.1 ho).1
          refine ⟨_, w', h1, Φ, L ++ [l'], More.refl _, Locs.snoc _, ?_, ?_⟩
          · refine ⟨hkill.new ⟨cells', by rw [e2]; exact h2, h3⟩ fun g cap he hlive => ?_, Deep.move hI ho rfl hl (fun b hb hne => h4.block b hb fun e => by obtain ⟨c, e1⟩ := own_hdr e.symm; exact hne c e1) h4.size rfl fun g cap he => ?_⟩
            rotate_left
            · subst he
              rcases h5 with h5 | h5
              · cases l with
                | none => simp [hdr, Value.ownBlock] at h5
                | some q => obtain ⟨a, b⟩ := q; exact .inl ⟨b, by simpa [hdr, Value.ownBlock, eq_comm] using h5⟩
              · have : g = w.heap.size := by simpa [hdr, Value.ownBlock] using h5
                exact .inr (by omega)
            subst he
            rcases h5 with h5 | h5
            · -- the same block
              cases l with
              | none => simp [hdr, Value.ownBlock] at h5
              | some q =>
                obtain ⟨a, b⟩ := q
                have hga : g = a := by simpa [hdr, Value.ownBlock] using h5
                subst hga
                refine ⟨(hI.own β _ g b ho rfl hl).1, (hI.own β _ g b ho rfl hl).2, fun γ o' cap'' hγ hlv hlg => ?_⟩
                by_cases he : γ = β
                · subst he
                  rw [List.getElem?_set_self hlt] at hγ
                  simp only [Option.some.injEq] at hγ; subst hγ; cases hlv
                · rw [List.getElem?_set_ne (Ne.symm he)] at hγ
                  exact hI.inj γ β o' _ g cap'' b he hγ hlv ho rfl hlg hl
            · have hg : g = w.heap.size := by simpa [hdr, Value.ownBlock] using h5
              subst hg
              refine ⟨?_, .inl hI.size, fun γ o' cap'' hγ hlv hlg => ?_⟩
              · cases hΦ : Φ w.heap.size with
                | none => rfl
                | some x => have := lt_of_block (hI.frz _ _ hΦ); omega
              · by_cases he : γ = β
                · subst he
                  rw [List.getElem?_set_self hlt] at hγ
                  simp only [Option.some.injEq] at hγ; subst hγ; cases hlv
                · rw [List.getElem?_set_ne (Ne.symm he)] at hγ
                  have := hI.lt hγ hlv hlg; omega
          · have hlen2 : (L ++ [l'])[H.length]? = some l' := by rw [← hI.len]; simp
            show CVal Φ (L ++ [l']) (.osl H.length (xs.take n ++ ys).length) _
            rw [e2]
            exact osl_of_hdr hlen2 hl0 hl1
        · cases h
      · cases h
    · cases h
  · cases h

/-! ### A string's bytes appended -/

theorem run_append_str {t u ty e : TypeId} {i : TypeInfo} (ht : P.underlying t = some (.slice e)) (hu : P.underlying u = some .string) (hi : P.info? e = some i) (hz : i.zero = some (.int .u8 0))
    (hsize : i.size = 1) (hby : i.bytes = 1) {v : Value} {n : Nat} {xs : List Value} (hown : w.ownsRow 0 e 1 v n xs) (s : ByteArray) (h63 : n + s.size ≤ maxLen) (hbytes : n + s.size ≤ 140737488355328) :
    ∃ v' w', (Builtin.append_ #[t, u] ty #[v, .string s]).run P w = .ok v' w' ∧ w'.ownsRow 0 e 1 v' (n + s.size) (xs ++ Lib.strCells s) ∧ w.grownBy w' v.ownBlock ∧ (v'.ownBlock = v.ownBlock ∨ v'.ownBlock = some w.heap.size) := by
  obtain ⟨v', w', h1, h2, h3, h4⟩ := Lib.run_append_own_string (P := P) w 0 t u ty e i ht hu hi hz hsize hby v n xs hown s h63 hbytes (Nat.zero_le _)
  refine ⟨v', w', h1, h2, h3, ?_⟩
  have hsmall : n + s.size ≤ 9223372036854775807 := by simp only [maxLen] at h63; omega
  rcases hown.2 with ⟨rfl, rfl⟩ | ⟨g, cap, cur, rfl, hbg, hg, hnc, hcm, hcs, htake⟩
  · by_cases hm : s.size = 0
    · rw [h4.2 ⟨rfl, hm⟩]; exact .inl rfl
    · have hr := run_append_nil_string (P := P) w t u ty e i (.int .u8 0) ht hu hi hz s (by omega) (by omega) (by rw [hby]; omega)
      rw [hr] at h1
      simp only [Result.ok.injEq] at h1
      rw [← h1.1]; exact .inr rfl
  · by_cases hroom : n + s.size ≤ cap
    · have hcs' : cur.size = cap := by simpa using hcs
      have hr := Lib.run_append_room_string (P := P) w t u ty e i ht hu hi hsize g n cap cur hg s hroom (by omega)
      rw [hr] at h1
      simp only [Result.ok.injEq] at h1
      rw [← h1.1]; exact .inl rfl
    · have holds : ∀ j u, xs[j]? = some u → w.cell? ((⟨g, 0, none⟩ : Addr).add j) = some u := hown.cells (g := g) rfl
      have hxl : xs.length = n := by simpa using hown.1
      have hr := Lib.run_append_grow_string (P := P) w t u ty e i (.int .u8 0) ht hu hi hz ⟨g, 0, none⟩ n cap xs (by rw [hsize]; simpa using hxl) holds s (by omega) (by omega) (by rw [hby]; exact growslice_fits (by omega) (by omega))
      rw [hr] at h1
      simp only [Result.ok.injEq] at h1
      rw [← h1.1]; exact .inr rfl

/-- The info of a byte's type. -/
def byteI (P : Program) (e : TypeId) : Bool := match P.info? e with
  | some i => (match i.zero with
    | some (.int .u8 n) => n == 0
    | _ => false) && i.size == 1 && i.bytes == 1
  | none => false
def strT (P : Program) (t : TypeId) : Bool := match P.underlying t with
  | some .string => true
  | _ => false

theorem RepL.str {Φ : Nat → Option Obj} : ∀ (s : List UInt8), RepL Φ .byte s (Lib.strCells ⟨s.toArray⟩)
  | [] => rfl
  | b :: s => ⟨[.int .u8 b.toNat], Lib.strCells ⟨s.toArray⟩, by simp [Lib.strCells], rfl, RepL.str s⟩

def appendS (P : Program) (H : List AObj) (e t' : TypeId) (s x : AV) : Option ER :=
  match x with
  | .str ys => if byteI P e = true ∧ strT P t' = true then match s with
    | .nilsl => some ⟨ys.length ≤ 140737488355328, .osl H.length ys.length, H ++ [.arr .byte e ys]⟩
    | .osl β n => match H[β]? with
      | some (.arr .byte e' xs) => if e' = e then
          some ⟨n ≤ xs.length ∧ n + ys.length ≤ 140737488355328, .osl H.length (xs.take n ++ ys).length, (H.set β .dead) ++ [.arr .byte e (xs.take n ++ ys)]⟩
        else none
      | _ => none
    | _ => none
    else none
  | _ => none

theorem appendS_ok (hI : Inv C Φ L H w) {t t' ty e : TypeId} (ht : P.underlying t = some (.slice e)) {s x : AV} {r : ER} (h : appendS P H e t' s x = some r) (hp : r.pre)
    {v u : Value} (hv : CVal Φ L s v) (hu : CVal Φ L x u) : ∃ v' w', (Builtin.append_ #[t, t'] ty #[v, u]).run P w = .ok v' w' ∧ EPost C Φ L r v' w' := by
  unfold appendS at h
  split at h
  case h_2 => cases h
  rename_i ys
  split at h
  case isFalse => cases h
  rename_i hc
  obtain ⟨i, hi, hz, hsize, hby⟩ : ∃ i, P.info? e = some i ∧ i.zero = some (.int .u8 0) ∧ i.size = 1 ∧ i.bytes = 1 := by
    have hc := hc.1
    unfold byteI at hc
    split at hc
    · rename_i i hi
      simp only [Bool.and_eq_true, beq_iff_eq] at hc
      obtain ⟨⟨h1, h2⟩, h3⟩ := hc
      split at h1
      · rename_i n hz
        have : n = 0 := by simpa using h1
        subst this
        exact ⟨i, hi, hz, h2, h3⟩
      · cases h1
    · cases hc
  have hstr : P.underlying t' = some .string := by
    have hc := hc.2
    unfold strT at hc
    split at hc
    · assumption
    · cases hc
  have hub : u = .string ⟨ys.toArray⟩ ∧ ys.length ≤ maxB := by cases hu with | str _ h => exact ⟨rfl, h⟩
  obtain ⟨rfl, hyl⟩ := hub
  have hbs : (⟨ys.toArray⟩ : ByteArray).size = ys.length := by simp [ByteArray.size]
  split at h
  · simp only [Option.some.injEq] at h; subst h
    have hp : ys.length ≤ 140737488355328 := hp
    cases hv
    obtain ⟨v', w', h1, h2, h4, h5⟩ := run_append_str (ty := ty) ht hstr hi hz hsize hby (World.ownsRow_nil w 0 e 1) ⟨ys.toArray⟩ (by rw [hbs, maxLen_eq]; omega) (by rw [hbs]; omega)
    simp only [Nat.zero_add, List.nil_append, hbs] at h2
    have h3 : RepL Φ .byte ys (Lib.strCells ⟨ys.toArray⟩) := RepL.str ys
    obtain ⟨cells', hcells⟩ : ∃ c, c = Lib.strCells ⟨ys.toArray⟩ := ⟨_, rfl⟩
    rw [← hcells] at h2 h3
    obtain ⟨l, rfl, hl0, hl1⟩ := ownsRow_shape h2
    have hb : Below w.heap.size w w' := ⟨h4.os, h4.tape, h4.output, h4.size, fun k hk => h4.block k hk (by simp [Value.ownBlock])⟩
    refine ⟨_, w', h1, Φ, L ++ [l], More.refl _, Locs.snoc _, ?_, osl_of_hdr (by rw [← hI.len]; simp) hl0 hl1⟩
    refine ⟨(hI.toInv0.below hb).new ⟨cells', h2, h3⟩ fun g cap he hlive => ?_, Deep.new hI hb (l := l) rfl fun g cap he hlive => ?_⟩
    rotate_left
    · subst he
      have : g = w.heap.size := by simpa [hdr, Value.ownBlock] using h5
      omega
    subst he
    have hg : g = w.heap.size := by simpa [hdr, Value.ownBlock] using h5
    subst hg
    refine ⟨?_, .inl hI.size, fun γ o' cap'' hγ hl' e => ?_⟩
    · cases hΦ : Φ w.heap.size with
      | none => rfl
      | some x => have := lt_of_block (hI.frz _ _ hΦ); omega
    · have := hI.lt hγ hl' e; omega
  · rename_i β n
    split at h
    · rename_i e' xs ho
      split at h
      · rename_i he
        subst he
        · simp only [Option.some.injEq] at h; subst h
          obtain ⟨hn, hp2⟩ := hp
          obtain ⟨l, cells, hl, hown, hr⟩ := hI.row ho
          obtain ⟨rfl, h0⟩ := hdr_osl hv hl
          have hlen : (xs.take n).length = n := by simp; omega
          have hown' := ownsRow_take hown hn h0
          obtain ⟨v', w', h1, h2, h4, h5⟩ := run_append_str (ty := ty) ht hstr hi hz hsize hby hown' ⟨ys.toArray⟩ (by rw [hbs, maxLen_eq]; omega) (by rw [hbs]; omega)
          have h3 := (hr.take n).append (RepL.str ys)
          rw [hbs] at h2
          obtain ⟨cells', hcells⟩ : ∃ c, c = List.take (n * 1) cells ++ Lib.strCells ⟨ys.toArray⟩ := ⟨_, rfl⟩
          have h2 : w'.ownsRow 0 e' 1 v' (n + ys.length) cells' := by rw [hcells]; exact h2
          have h3 : RepL Φ .byte (xs.take n ++ ys) cells' := by rw [hcells]; exact h3
          have e2 : (xs.take n ++ ys).length = n + ys.length := by rw [List.length_append, hlen]
          obtain ⟨l', rfl, hl0, hl1⟩ := ownsRow_shape h2
          have hown2 : (hdr l n).ownBlock = (hdr l xs.length).ownBlock := by cases l <;> rfl
          have hkill := hI.toInv0.kill ho hl (w' := w') (by rw [← hown2]; exact h4)
          have hlt : β < H.length := (List.getElem?_eq_some_iff.1 ho).1
          refine ⟨_, w', h1, Φ, L ++ [l'], More.refl _, Locs.snoc _, ?_, ?_⟩
          · refine ⟨hkill.new ⟨cells', by rw [e2]; exact h2, h3⟩ fun g cap he hlive => ?_, Deep.move hI ho rfl hl (fun b hb hne => h4.block b hb fun e => by obtain ⟨c, e1⟩ := own_hdr e.symm; exact hne c e1) h4.size rfl fun g cap he => ?_⟩
            rotate_left
            · subst he
              rcases h5 with h5 | h5
              · cases l with
                | none => simp [hdr, Value.ownBlock] at h5
                | some q => obtain ⟨a, b⟩ := q; exact .inl ⟨b, by simpa [hdr, Value.ownBlock, eq_comm] using h5⟩
              · have : g = w.heap.size := by simpa [hdr, Value.ownBlock] using h5
                exact .inr (by omega)
            subst he
            rcases h5 with h5 | h5
            · -- the same block
              cases l with
              | none => simp [hdr, Value.ownBlock] at h5
              | some q =>
                obtain ⟨a, b⟩ := q
                have hga : g = a := by simpa [hdr, Value.ownBlock] using h5
                subst hga
                refine ⟨(hI.own β _ g b ho rfl hl).1, (hI.own β _ g b ho rfl hl).2, fun γ o' cap'' hγ hlv hlg => ?_⟩
                by_cases he : γ = β
                · subst he
                  rw [List.getElem?_set_self hlt] at hγ
                  simp only [Option.some.injEq] at hγ; subst hγ; cases hlv
                · rw [List.getElem?_set_ne (Ne.symm he)] at hγ
                  exact hI.inj γ β o' _ g cap'' b he hγ hlv ho rfl hlg hl
            · have hg : g = w.heap.size := by simpa [hdr, Value.ownBlock] using h5
              subst hg
              refine ⟨?_, .inl hI.size, fun γ o' cap'' hγ hlv hlg => ?_⟩
              · cases hΦ : Φ w.heap.size with
                | none => rfl
                | some x => have := lt_of_block (hI.frz _ _ hΦ); omega
              · by_cases he : γ = β
                · subst he
                  rw [List.getElem?_set_self hlt] at hγ
                  simp only [Option.some.injEq] at hγ; subst hγ; cases hlv
                · rw [List.getElem?_set_ne (Ne.symm he)] at hγ
                  have := hI.lt hγ hlv hlg; omega
          · have hlen2 : (L ++ [l'])[H.length]? = some l' := by rw [← hI.len]; simp
            show CVal Φ (L ++ [l']) (.osl H.length (xs.take n ++ ys).length) _
            rw [e2]
            exact osl_of_hdr hlen2 hl0 hl1
      · cases h
    · cases h
  · cases h
end
end Go.Proofs.Ythojapklndjidaa
