/- Slices that own what their elements hold: made, written out, appended to. -/
import Derived.Test.YthojapklndjidaaSyN
namespace Go.Proofs.Ythojapklndjidaa
open Go Go.RowKit
set_option linter.unusedVariables false
set_option linter.all false

section
variable {P : Program} {C : Ctx} {Φ : Nat → Option Obj} {L : Locs} {H : List AObj} {w : World}

/-- A name is gone; its block may have been written. -/
theorem Inv0.killG (h : Inv0 C Φ L H w) {γ : Nat} {o : AObj} {l : Option (Nat × Nat)} (ho : H[γ]? = some o) (hlive : o.live = true) (hl : L[γ]? = some l) {w' : World}
    (hw : ∀ b, b < w.heap.size → (∀ cap, l ≠ some (b, cap)) → w'.heap[b]? = w.heap[b]?) (hs : w.heap.size ≤ w'.heap.size) (hos : w'.os = w.os) (ht : w'.tape = w.tape) (hout : w'.output = w.output) : Inv0 C Φ L (H.set γ .dead) w' := by
  have hlt : γ < H.length := (List.getElem?_eq_some_iff.1 ho).1
  constructor
  · simp [h.len]
  · intro b x hb
    rw [hw b (lt_of_block (h.frz b x hb)) (fun cap e => by subst e; have := (h.own γ _ b cap ho hlive hl).1; rw [this] at hb; cases hb)]; exact h.frz b x hb
  · exact h.base
  · exact h.glob
  · exact h.fresh
  · exact hos.trans h.os
  · exact ht.trans h.tape
  · exact hout.trans h.output
  · exact Nat.le_trans h.size hs
  · intro b hlt hW
    rw [hw b (Nat.lt_of_lt_of_le hlt h.size) (fun cap e => by subst e; rcases (h.own γ _ b cap ho hlive hl).2 with hB | hB; omega; exact hW hB)]; exact h.keep b hlt hW
  · intro δ x hδ
    by_cases he : δ = γ
    · subst he
      rw [List.getElem?_set_self hlt] at hδ
      simp only [Option.some.injEq] at hδ; subst hδ
      exact ⟨_, hl, trivial⟩
    · rw [List.getElem?_set_ne (Ne.symm he)] at hδ
      obtain ⟨l', hl', hk'⟩ := h.obj δ x hδ
      refine ⟨l', hl', hk'.keep fun g' cap' hlv hlg hlt' => hw g' hlt' (fun cap e => ?_)⟩
      subst e; subst hlg
      exact h.inj δ γ x _ g' cap' cap he hδ hlv ho hlive hl' hl
  · intro δ x g' cap' hδ hlv hlg
    by_cases he : δ = γ
    · subst he
      rw [List.getElem?_set_self hlt] at hδ
      simp only [Option.some.injEq] at hδ; subst hδ; cases hlv
    · rw [List.getElem?_set_ne (Ne.symm he)] at hδ
      exact h.own δ x g' cap' hδ hlv hlg
  · intro δ ε x y g' c1 c2 hne hδ hlx hε hly e1 e2
    have back : ∀ (ζ : Nat) z, (H.set γ .dead)[ζ]? = some z → z.live = true → H[ζ]? = some z := fun ζ z hz hlz => by
      by_cases he : ζ = γ
      · subst he
        rw [List.getElem?_set_self hlt] at hz
        simp only [Option.some.injEq] at hz; subst hz; cases hlz
      · rw [List.getElem?_set_ne (Ne.symm he)] at hz; exact hz
    exact h.inj δ ε x y g' c1 c2 hne (back δ x hδ hlx) hlx (back ε y hε hly) hly e1 e2
  · exact h.pre

theorem LRep.of_get0 {α : Type} {R : α → List Value → List Nat → Prop} {s : Nat} : ∀ {xs : List α} {cells : List Value}, cells.length = xs.length * s →
    (∀ (i : Nat) (h : i < xs.length), ∃ ws, R (xs[i]'h) ws [] ∧ ws.length = s ∧ ∀ (j : Nat) (v : Value), ws[j]? = some v → cells[i * s + j]? = some v) → LRep R xs cells []
  | [], cells, hl, _ => ⟨List.eq_nil_of_length_eq_zero (by simpa using hl), rfl⟩
  | x :: xs, cells, hl, hg => by
    have hl' : cells.length = xs.length * s + s := by rw [hl, List.length_cons, Nat.succ_mul]
    obtain ⟨ws, h1, hwl, h2⟩ := hg 0 (by simp)
    have e : cells.take s = ws := by
      apply List.ext_getElem?
      intro j
      rw [List.getElem?_take]
      by_cases hj : j < s
      · have hw : ws[j]? = some (ws[j]'(by omega)) := List.getElem?_eq_getElem _
        have := h2 j _ hw
        rw [Nat.zero_mul, Nat.zero_add] at this
        rw [if_pos hj, this, hw]
      · rw [if_neg hj, List.getElem?_eq_none (by omega)]
    refine ⟨cells.take s, cells.drop s, [], [], (List.take_append_drop _ _).symm, rfl, by rw [e]; exact h1, LRep.of_get0 (s := s) (by rw [List.length_drop]; omega) fun i hi => ?_⟩
    obtain ⟨us, h3, h4, h5⟩ := hg (i + 1) (by simp; omega)
    refine ⟨us, h3, h4, fun j v hj => ?_⟩
    rw [List.getElem?_drop]
    have := h5 j v hj
    rwa [show s + (i * s + j) = (i + 1) * s + j by rw [Nat.succ_mul]; omega]

/-! ### make -/

theorem absorb0_ok : ∀ {d : DT} {cs r : List AV} {p : Prop} {x : d.ty.D} {H' : List AObj}, absorb [] d cs = some (p, x, r, H') → ∀ {vs : List Value}, CVals Φ L cs vs →
    H' = [] ∧ ∃ v1 v2, vs = v1 ++ v2 ∧ RepO w d x v1 [] ∧ CVals Φ L r v2
  | .leaf T, cs, r, p, x, H', hs, vs, hv => by
    unfold absorb at hs
    split at hs
    · rename_i hf
      split at hs
      · rename_i x' r' hu
        simp only [Option.some.injEq, Prod.mk.injEq] at hs
        obtain ⟨rfl, rfl, rfl, rfl⟩ := hs
        obtain ⟨v1, v2, rfl, h1, h2⟩ := unflat_ok hu hv
        exact ⟨rfl, v1, v2, rfl, ⟨rfl, hf, RepT.flat hf h1⟩, h2⟩
      · cases hs
    · cases hs
  | .pair a b, cs, r, p, x, H', hs, vs, hv => by
    unfold absorb at hs
    split at hs
    · rename_i p1 x1 r1 H1 h1
      split at hs
      · rename_i q y r2 H2 h2
        simp only [Option.some.injEq, Prod.mk.injEq] at hs
        obtain ⟨rfl, rfl, rfl, rfl⟩ := hs
        obtain ⟨rfl, v1, v2, rfl, a1, a2⟩ := absorb0_ok h1 hv
        obtain ⟨rfl, v3, v4, rfl, b1, b2⟩ := absorb0_ok h2 a2
        exact ⟨rfl, v1 ++ v3, v4, by simp, ⟨v1, v3, [], [], rfl, rfl, a1, b1⟩, b2⟩
      · cases hs
    · cases hs
  | .sl e d, c :: cs, r, p, x, H', hs, vs, hv => by
    unfold absorb at hs
    split at hs
    · rename_i p1 xs H1 h1
      simp only [Option.some.injEq, Prod.mk.injEq] at hs
      obtain ⟨rfl, rfl, rfl, rfl⟩ := hs
      obtain ⟨v, ws, rfl, _, hv1, hvs⟩ := hv.inv_cons
      unfold absorb1 at h1
      split at h1
      · split at h1
        · rename_i hh; simp at hh
        · rename_i hh; simp at hh
        · cases h1
      · simp only [Option.some.injEq, Prod.mk.injEq] at h1
        obtain ⟨rfl, rfl, rfl⟩ := h1
        cases hv1
        exact ⟨rfl, [_], ws, rfl, ⟨none, [], [], rfl, rfl, World.ownsRow_nil w 0 e d.ty.size, rfl, rfl⟩, hvs⟩
      · cases h1
    · cases hs
  | .sl e d, [], r, p, x, H', hs, vs, hv => by simp [absorb] at hs

/-- make([]T, n), where the elements will own what they hold. -/
def makeDE (H : List AObj) (d : DT) (e : TypeId) (te : TI) (l c : AV) : Option ER :=
  match te.zero, l, c with
  | some z, .int _ n, .int _ m => match absorb [] d z with
    | some (_, x, [], _) => if te.ok = true ∧ te.size = d.ty.size then some ⟨0 ≤ n ∧ n = m ∧ te.bytes * n.toNat ≤ 281474976710656 ∧ n ≤ 9223372036854775807, .osl H.length n.toNat, H ++ [.deep d e (List.replicate n.toNat x)]⟩ else none
    | _ => none
  | _, _, _ => none

theorem makeDE_ok (hI : Inv C Φ L H w) {t e : TypeId} {te : TI} {d : DT} (ht : P.underlying t = some (.slice e)) (hte : tinfo P e = some te) {l c : AV} {r : ER} (h : makeDE H d e te l c = some r) (hp : r.pre)
    {u v : Value} (hu : CVal Φ L l u) (hv : CVal Φ L c v) : ∃ v' w', (Instr.makeSlice t u v).run P w = .ok v' w' ∧ EPost C Φ L r v' w' := by
  unfold makeDE at h
  split at h
  · rename_i z k n k' m hz0
    split at h
    · rename_i p0 x H0 habs
      split at h
      · rename_i hc
        simp only [Option.some.injEq] at h; subst h
        obtain ⟨hok, hsz⟩ := hc
        obtain ⟨hp1, rfl, hp3, hp4⟩ := hp
        obtain ⟨i, zv, hi, hz, his, hib, hze, hzcs, _, hzc⟩ := zero_cells (Φ := Φ) (L := L) hte hok
        rw [hz0] at hze; simp only [Option.some.injEq] at hze; subst hze
        cases hu; cases hv
        obtain ⟨N, rfl⟩ := Int.eq_ofNat_of_zero_le hp1
        simp only [Int.toNat_natCast] at hp3 ⊢
        obtain ⟨w', h1, h2, h3⟩ := run_make_full (P := P) w 0 t e i zv d.ty.size ht hi hz (by rw [his, hsz]) k k' N (by rw [hib]; exact hp3) (by rw [maxLen_eq]; omega) (Nat.zero_le _)
        have hN : N ≤ maxB := by rw [maxB_eq]; omega
        have hb : Below w.heap.size w w' := ⟨h3.os, h3.tape, h3.output, h3.size, fun k hk => h3.block k hk (by simp)⟩
        obtain ⟨_, v1, v2, hvz, hrep, hr2⟩ := absorb0_ok (w := w') habs hzcs
        have hv2 := hr2.inv_nil
        subst hv2
        rw [List.append_nil] at hvz
        subst hvz
        have hzl := hrep.length
        rw [Array.length_toList] at hzl
        have hL : LRep (RepO w' d) (List.replicate N x) (madeCells zv.cells (N * d.ty.size)).toList [] := by
          refine LRep.of_get0 (s := d.ty.size) (by simp [madeCells]) fun i hi => ?_
          simp only [List.length_replicate] at hi
          refine ⟨zv.cells.toList, by simpa using hrep, by rw [Array.length_toList]; exact hzl, fun j v hj => ?_⟩
          have hjl : j < zv.cells.toList.length := (List.getElem?_eq_some_iff.1 hj).1
          rw [Array.length_toList] at hjl
          have hb : i * d.ty.size + d.ty.size ≤ N * d.ty.size := by rw [← Nat.succ_mul]; exact Nat.mul_le_mul_right _ hi
          have hlt : i * d.ty.size + j < N * d.ty.size := by omega
          have hmod : (i * d.ty.size + j) % zv.cells.size = j := by
            rw [hzl, Nat.mul_comm, Nat.mul_add_mod]; exact Nat.mod_eq_of_lt (by omega)
          have hz' : zv.cells[j]? = some v := by simpa using hj
          simp [madeCells, hlt, hmod, getElem!_def, hz']
        have hrow : w'.ownsRow 0 e d.ty.size (hdr (some (w.heap.size, N)) (List.replicate N x).length) (List.replicate N x).length (madeCells zv.cells (N * d.ty.size)).toList := by simpa [hdr] using h2
        refine ⟨_, w', h1, Φ, L ++ [some (w.heap.size, N)], More.refl _, Locs.snoc _, ⟨hI.toInv0.alloc_new hb N fun L' hL' => ⟨_, hrow⟩, ?_⟩, ?_⟩
        · obtain ⟨F, hF⟩ := hI.deep
          refine Det.new hI.toInv0 (.of_deep hF) (G1 := []) (fun b hlt _ => hb.block b hlt) hb.size (by simp) List.nodup_nil (fun g cap he => ?_) fun _ => ⟨_, hrow, hL⟩
          simp only [Option.some.injEq, Prod.mk.injEq] at he
          exact ⟨by simp, .inr (by omega)⟩
        · exact .osl _ _ w.heap.size N (by rw [← hI.len]; simp) (Nat.le_refl _) hN
      · cases h
    · cases h
  · cases h

/-! ### A slice written out -/

def absorbN (d : DT) : Nat → List AObj → List AV → Option (Prop × List d.ty.D × List AObj)
  | 0, H, [] => some (True, [], H)
  | 0, _, _ :: _ => none
  | n + 1, H, cs => match absorb H d cs with
    | some (p, x, r, H1) => match absorbN d n H1 r with
      | some (q, xs, H2) => some (p ∧ q, x :: xs, H2)
      | none => none
    | none => none

theorem absorbN_ok {F : Nat → List Nat} {d : DT} : ∀ {n : Nat} {H : List AObj} {G : List Nat} {cs : List AV} {p : Prop} {xs : List d.ty.D} {H' : List AObj}, Inv0 C Φ L H w → Det C Φ L H w F G → absorbN d n H cs = some (p, xs, H') → p → ∀ {vs : List Value}, CVals Φ L cs vs →
    ∃ G', LRep (RepO w d) xs vs G' ∧ Inv0 C Φ L H' w ∧ Det C Φ L H' w F (G ++ G') ∧ xs.length = n ∧ H'.length = H.length
  | 0, H, G, [], p, xs, H', hI, h, hs, hp, vs, hv => by
    simp only [absorbN, Option.some.injEq, Prod.mk.injEq] at hs
    obtain ⟨rfl, rfl, rfl⟩ := hs
    exact ⟨[], ⟨hv.inv_nil, rfl⟩, hI, by simpa using h, rfl, rfl⟩
  | 0, H, G, _ :: _, p, xs, H', hI, h, hs, hp, vs, hv => by simp [absorbN] at hs
  | n + 1, H, G, cs, p, xs, H', hI, h, hs, hp, vs, hv => by
    simp only [absorbN] at hs
    split at hs
    · rename_i p1 x r H1 h1
      split at hs
      · rename_i q ys H2 h2
        simp only [Option.some.injEq, Prod.mk.injEq] at hs
        obtain ⟨rfl, rfl, rfl⟩ := hs
        obtain ⟨v1, v2, G1, rfl, a1, a2, a3, a4⟩ := absorb_ok hI h h1 hp.1 hv
        obtain ⟨G2, b1, b2, b3, b4, b5⟩ := absorbN_ok a3 a4 h2 hp.2 a2
        exact ⟨G1 ++ G2, ⟨v1, v2, G1, G2, rfl, rfl, a1, b1⟩, b2, by rwa [← List.append_assoc], by simp [b4], by rw [b5, (absorb_keep h1).1]⟩
      · cases hs
    · cases hs

def buildDE (H : List AObj) (d : DT) (e : TypeId) (te : TI) (len : Nat) (parts : List (Nat × AV)) : Option ER :=
  if te.ok = true ∧ te.size = d.ty.size ∧ 0 < d.ty.size ∧ len = parts.length ∧ len * d.ty.size ≤ 16777216 ∧ inOrder 0 (parts.map (·.1)) = true ∧ parts.all (fun p => isCell p.2 && (cellsA p.2).length == d.ty.size) = true then
    match absorbN d len H (parts.flatMap fun p => cellsA p.2) with
    | some (p, xs, H') => some ⟨p, .osl H.length xs.length, H' ++ [.deep d e xs]⟩
    | none => none
  else none

theorem buildDE_ok (hI : Inv C Φ L H w) {t e : TypeId} {te : TI} {d : DT} (ht : P.underlying t = some (.slice e)) (hte : tinfo P e = some te) {len : Nat} {parts : List (Nat × AV)} {vparts : Array (Nat × Value)} {r : ER}
    (h : buildDE H d e te len parts = some r) (hp : r.pre) (hl : vparts.size = parts.length) (hall : ∀ (j : Nat) p q, parts[j]? = some p → vparts[j]? = some q → p.1 = q.1 ∧ CVal Φ L p.2 q.2) :
    ∃ v' w', (Instr.buildSlice t len vparts).run P w = .ok v' w' ∧ EPost C Φ L r v' w' := by
  unfold buildDE at h
  split at h
  · rename_i hc
    obtain ⟨hok, hsz, hpos, hlen, hbig, hord, hcell⟩ := hc
    have hlen64 : len ≤ 16777216 := Nat.le_trans (Nat.le_mul_of_pos_right len hpos) hbig
    split at h
    · rename_i p xs H' habs
      simp only [Option.some.injEq] at h; subst h
      obtain ⟨i, z, hi, hz, his, hib, _, _, _, hzc⟩ := zero_cells (Φ := Φ) (L := L) hte hok
      have hcell' : ∀ p ∈ parts, isCell p.2 = true ∧ (cellsA p.2).length = d.ty.size := fun p hp => by
        have := List.all_eq_true.1 hcell p hp
        simpa using this
      obtain ⟨h1, h2, h3⟩ := CVals.flatMap (Φ := Φ) (L := L) (parts := parts) (vparts := vparts.toList) (by simpa using hl) (fun j p q hj hq => hall j p q hj (by simpa using hq)) (fun p hp => (hcell' p hp).1)
      obtain ⟨F, hF⟩ := hI.deep
      obtain ⟨G, hrep, hI', hdet, hn, hHl⟩ := absorbN_ok hI.toInv0 (.of_deep hF) habs hp h1
      rw [List.nil_append] at hdet
      have hvs : ∀ q ∈ vparts.toList, q.2.cells.size = d.ty.size := fun q hq => by
        obtain ⟨j, hj, rfl⟩ := List.mem_iff_getElem.1 hq
        have hjp : j < parts.length := by rw [← hl]; simpa using hj
        rw [h3 j _ _ (List.getElem?_eq_getElem hjp) (List.getElem?_eq_getElem hj)]
        exact (hcell' _ (List.getElem_mem hjp)).2
      have hisz : i.size = d.ty.size := by rw [his, hsz]
      have hvl : vparts.toList.length = len := by rw [Array.length_toList, hl, hlen]
      obtain ⟨ws, hf, hwl⟩ := fill_all (size := d.ty.size) (parts := vparts.toList) (k := 0) (cur := (Array.range (len * d.ty.size)).map ((if len * d.ty.size = 0 then #[] else z.cells)[· % (if len * d.ty.size = 0 then #[] else z.cells).size]!)) (by rw [h2]; exact hord) hvs (by rw [hvl]; simp)
      have hwl' : ws.toList = vparts.toList.flatMap fun p => p.2.cells.toList := by
        rw [hwl]; simp [hvl]
      have hwsz : ws.size = len * d.ty.size := by
        rw [← Array.length_toList, hwl', hrep.length fun x v F h => RepO.length h, hn]
      have hb : Below w.heap.size w (w.alloc (.cells ws e)) := (Below.refl _ _).alloc (Nat.le_refl _) _
      have hrow : (w.alloc (.cells ws e)).ownsRow 0 e d.ty.size (hdr (some (w.heap.size, len)) xs.length) xs.length ws.toList := by
        rw [hn]
        refine ⟨by rw [Array.length_toList]; exact hwsz, .inr ⟨w.heap.size, len, ws, rfl, Nat.zero_le _, heap_alloc_new w _, Nat.le_refl _, ?_, hwsz, ?_⟩⟩
        · rw [maxLen_eq]; omega
        · rw [List.take_of_length_le (by rw [Array.length_toList]; omega)]
      refine ⟨.slice (some ⟨w.heap.size, 0, none⟩) len len, w.alloc (.cells ws e), ?_, Φ, L ++ [some (w.heap.size, len)], More.refl _, Locs.snoc _, ⟨hI'.alloc_new hb len fun L' hL' => ⟨ws.toList, hrow⟩, ?_⟩, ?_⟩
      · have hbig' : ¬ len * i.size > 16777216 := by rw [hisz]; omega
        rw [← hisz] at hf
        unfold Instr.buildSlice
        by_cases h0 : len * i.size = 0
        · rw [h0] at hf
          have e0 : ∀ f : Nat → Value, (Array.range 0).map f = #[] := fun f => by simp
          rw [e0] at hf
          simp [run_underlying ht, sizeOf, typeInfo, hi, h0, newRow]
          rw [e0, hf]
          simp
        · simp only [h0, if_false] at hf
          simp [run_underlying ht, sizeOf, typeInfo, hi, hbig', zeroValue, hz, newRow]
          rw [if_neg h0]
          simp [hf]
      · refine Det.new hI' hdet (G1 := G) (fun b hlt _ => hb.block b hlt) hb.size (fun b hb => hb) hdet.nd (fun g cap he => ?_) fun _ => ⟨ws.toList, hrow, ?_⟩
        · simp only [Option.some.injEq, Prod.mk.injEq] at he
          exact ⟨fun hm => by have := (hdet.ok g hm).1; omega, .inr (by omega)⟩
        · rw [hwl']
          exact hrep.mono fun x vs G' hG' hx => hx.keep fun b hb' => hb.block b (hdet.ok b (hG' b hb')).1
      · show CVal Φ _ (.osl H.length xs.length) _
        rw [hn]
        exact .osl _ _ w.heap.size len (by rw [← hI.len]; simp) (Nat.le_refl _) (by rw [maxB_eq]; omega)
    · cases h
  · cases h

/-! ### append -/

def appendDE (H : List AObj) (e : TypeId) (te : TI) (s x : AV) : Option ER :=
  match x with
  | .osl δ m => match H[δ]? with
    | some (.deep d e' ys) => match s with
      | .nilsl => if e' = e ∧ te.ok = true ∧ te.size = d.ty.size ∧ 0 < d.ty.size then
          some ⟨m = ys.length ∧ ys.length ≤ 9223372036854775807 ∧ ys.length * te.bytes ≤ 140737488355328, .osl H.length ys.length, H.set δ .dead ++ [.deep d e ys]⟩ else none
      | .osl β n => match H[β]? with
        | some (.deep d' e'' xs) => if h : d' = d then if β ≠ δ ∧ e' = e ∧ e'' = e ∧ te.ok = true ∧ te.size = d.ty.size ∧ 0 < d.ty.size then
            some ⟨m = ys.length ∧ n = xs.length ∧ n + ys.length ≤ 9223372036854775807 ∧ (n + ys.length) * te.bytes ≤ 140737488355328, .osl H.length (castD h xs ++ ys).length, (H.set δ .dead).set β .dead ++ [.deep d e (castD h xs ++ ys)]⟩ else none else none
        | _ => none
      | _ => none
    | _ => none
  | _ => none

theorem run_append_raw {t ty e : TypeId} {te : TI} {size : Nat} (ht : P.underlying t = some (.slice e)) (hte : tinfo P e = some te) (hok : te.ok = true) (hsz : te.size = size) (hpos : 0 < size)
    {v : Value} {n : Nat} {cells : List Value} (hown : w.ownsRow 0 e size v n cells) {l : Option (Nat × Nat)} {m : Nat} {news : List Value} (hs : w.ownsRow 0 e size (hdr l m) m news) (hone : ∀ u ∈ news, u.oneCell' = true)
    (h63 : n + m ≤ 9223372036854775807) (hbytes : (n + m) * te.bytes ≤ 140737488355328) :
    ∃ v' w', (Builtin.append_ #[t, t] ty #[v, hdr l m]).run P w = .ok v' w' ∧ w'.ownsRow 0 e size v' (n + m) (cells ++ news) ∧ w.grownBy w' v.ownBlock ∧ (v'.ownBlock = v.ownBlock ∨ v'.ownBlock = some w.heap.size) := by
  obtain ⟨i, z, hi, hz, his, hib, _, _, _, hzc⟩ := zero_cells (Φ := fun _ => none) (L := []) hte hok
  cases l with
  | none =>
    have hm : m = 0 := by
      rcases hs.2 with ⟨_, h0⟩ | ⟨g, cap, cur, hv, _⟩
      · exact h0
      · simp [hdr] at hv
    subst hm
    have hn : news = [] := List.eq_nil_of_length_eq_zero (by rw [hs.1]; simp)
    subst hn
    exact ⟨v, w, run_append_none' ht hi hown none 0, by simpa using hown, ⟨rfl, rfl, rfl, Nat.le_refl _, fun _ _ _ => rfl⟩, .inl rfl⟩
  | some q =>
    obtain ⟨g, c⟩ := q
    have hzs : z.cells.size = size := by rw [hzc, hsz]
    obtain ⟨v', w', h1, h2, h3, _, h5⟩ := run_append_own_at (P := P) w 0 t ty e i z size te.bytes ht hi hz (by rw [his, hsz]) hib hzs hpos v n cells hown ⟨g, 0, none⟩ m c news hs.1 (fun j u hj => by rw [add_none, Nat.zero_add]; exact ownsRow_cell hs hj) hone (by rw [maxLen_eq]; exact h63) hbytes (Nat.zero_le _)
    exact ⟨v', w', h1, h2, h3, h5⟩

theorem LRep.one {d : DT} : ∀ {xs : List d.ty.D} {cs : List Value} {F : List Nat}, LRep (RepO w d) xs cs F → ∀ v ∈ cs, v.oneCell' = true
  | [], _, _, ⟨h, _⟩, v, hv => by subst h; cases hv
  | x :: xs, _, _, ⟨v1, v2, F1, F2, hc, hF, h1, h2⟩, v, hv => by
    subst hc
    rcases List.mem_append.1 hv with hv | hv
    · have hc : CVals (fun _ => none) [] (flatD d x) v1 := h1.words
      obtain ⟨j, hj, rfl⟩ := List.mem_iff_getElem.1 hv
      exact (hc.2 j _ _ (List.getElem?_eq_getElem (by rw [← hc.1]; exact hj)) (List.getElem?_eq_getElem hj)).1
    · exact LRep.one h2 v hv

theorem appendDE_ok (hI : Inv C Φ L H w) {t ty e : TypeId} {te : TI} (ht : P.underlying t = some (.slice e)) (hte : tinfo P e = some te) {s x : AV} {r : ER} (h : appendDE H e te s x = some r) (hp : r.pre)
    {v u : Value} (hv : CVal Φ L s v) (hu : CVal Φ L x u) : ∃ v' w', (Builtin.append_ #[t, t] ty #[v, u]).run P w = .ok v' w' ∧ EPost C Φ L r v' w' := by
  unfold appendDE at h
  split at h
  · rename_i δ m
    split at h
    · rename_i d e' ys hδ
      obtain ⟨F, hF⟩ := hI.deep
      obtain ⟨lδ, hlδ, cy, howny, hry⟩ := (hF δ _ hδ rfl).is
      obtain ⟨hue, _⟩ := hdr_osl hu hlδ
      have hdet := (Det.of_deep hF).take hI.toInv0 hδ rfl hlδ
      have hI1 : Inv0 C Φ L (H.set δ .dead) w := hI.toInv0.recast' (by simp) dead_back
      rw [List.nil_append] at hdet
      split at h
      · split at h
        · rename_i hc
          obtain ⟨rfl, hok, hsz, hpos⟩ := hc
          simp only [Option.some.injEq] at h; subst h
          obtain ⟨hp1, hp2, hp3⟩ := hp
          subst hp1
          subst hue
          cases hv
          obtain ⟨v', w', h1, h2, h4, h5⟩ := run_append_raw (ty := ty) ht hte hok hsz hpos (World.ownsRow_nil w 0 _ d.ty.size) howny hry.one (by omega) (by simpa using hp3)
          simp only [Nat.zero_add, List.nil_append] at h2
          obtain ⟨l, rfl, hl0, hl1⟩ := ownsRow_shape h2
          have hb : Below w.heap.size w w' := ⟨h4.os, h4.tape, h4.output, h4.size, fun k hk => h4.block k hk (by simp [Value.ownBlock])⟩
          have hgl : ∀ g cap, l = some (g, cap) → g = w.heap.size := fun g cap he => by subst he; simpa [hdr, Value.ownBlock] using h5
          have hdF : ∀ b ∈ F δ, b ∈ headB lδ ++ F δ := fun b hb => List.mem_append.2 (.inr hb)
          refine ⟨_, w', h1, Φ, L ++ [l], More.refl _, Locs.snoc _, ⟨(hI1.below hb).new ⟨cy, h2⟩ fun g cap he hlive => ?_, Det.new hI1 hdet (G1 := F δ) (fun b hlt _ => hb.block b hlt) hb.size hdF (hF δ _ hδ rfl).nd (fun g cap he => ?_) fun _ => ⟨cy, h2, ?_⟩⟩, osl_of_hdr (by rw [← hI.len]; simp) hl0 hl1⟩
          · have := hgl g cap he
            subst this
            refine ⟨?_, .inl hI.size, fun γ o' cap'' hγ hl' e => ?_⟩
            · cases hΦ : Φ w.heap.size with
              | none => rfl
              | some x => have := lt_of_block (hI.frz _ _ hΦ); omega
            · have := hI1.lt hγ hl' e; omega
          · have := hgl g cap he
            exact ⟨fun hm => by have := (hF δ _ hδ rfl).lt g hm; omega, .inr (by omega)⟩
          · exact hry.mono fun x vs G hG hx => hx.keep fun b hb' => hb.block b ((hF δ _ hδ rfl).lt b (hG b hb'))
        · cases h
      · rename_i β n
        split at h
        · rename_i d' e'' xs hβ
          split at h
          · rename_i hd; subst hd
            split at h
            · rename_i hc
              obtain ⟨hne, rfl, rfl, hok, hsz, hpos⟩ := hc
              simp only [Option.some.injEq, castD_rfl] at h; subst h
              simp only at hp
              obtain ⟨hp1, hp4, hp2, hp3⟩ := hp
              subst hp1; subst hp4
              subst hue
              obtain ⟨lβ, hlβ, cx, hownx, hrx⟩ := (hF β _ hβ rfl).is
              obtain ⟨rfl, h0⟩ := hdr_osl hv hlβ
              have hβ1 : (H.set δ .dead)[β]? = some (.deep d' e'' xs) := by rw [List.getElem?_set_ne (fun e => hne e.symm)]; exact hβ
              have hdet2 := hdet.take hI1 hβ1 rfl hlβ
              obtain ⟨v', w', h1, h2, h4, h5⟩ := run_append_raw (ty := ty) ht hte hok hsz hpos hownx howny hry.one hp2 hp3
              obtain ⟨l, rfl, hl0, hl1⟩ := ownsRow_shape h2
              have e2 : (xs ++ ys).length = xs.length + ys.length := List.length_append ..
              have hch : ∀ b, b < w.heap.size → (∀ cap, lβ ≠ some (b, cap)) → w'.heap[b]? = w.heap[b]? := fun b hb hn => h4.block b hb fun e => by obtain ⟨c, e1⟩ := own_hdr e.symm; exact hn c e1
              have hgl : ∀ g cap, l = some (g, cap) → (∃ cap', lβ = some (g, cap')) ∨ g = w.heap.size := fun g cap he => by
                subst he
                rcases h5 with h5 | h5
                · obtain ⟨c, e1⟩ := own_hdr (show (hdr lβ xs.length).ownBlock = some g by rw [← h5]; rfl)
                  exact .inl ⟨c, e1⟩
                · exact .inr (by simpa [hdr, Value.ownBlock] using h5)
              have hkill := hI1.killG hβ1 rfl hlβ hch h4.size h4.os h4.tape h4.output
              have kδ := hF δ _ hδ rfl
              have kβ := hF β _ hβ rfl
              refine ⟨_, w', h1, Φ, L ++ [l], More.refl _, Locs.snoc _, ⟨hkill.new ⟨_, by rw [e2]; exact h2⟩ fun g cap he hlive => ?_, Det.new (hI1.recast' (by simp) dead_back) hdet2 (G1 := F β ++ F δ) (fun b hlt hm => hch b hlt fun cap e => hm ?_) h4.size (fun b hb => ?_) ?_ (fun g cap he => ?_) fun _ => ⟨_, by rw [e2]; exact h2, ?_⟩⟩, ?_⟩
              · rcases hgl g cap he with ⟨c, e⟩ | rfl
                · subst e
                  refine ⟨(hI.own β _ g c hβ rfl hlβ).1, (hI.own β _ g c hβ rfl hlβ).2, fun γ o' cap'' hγ hlv hlg => ?_⟩
                  obtain ⟨o1, a1, a2⟩ := dead_back γ o' hγ
                  rcases a2 with rfl | rfl
                  · by_cases heq : γ = β
                    · subst heq
                      rw [List.getElem?_set_self (by rw [List.length_set]; exact (List.getElem?_eq_some_iff.1 hβ).1)] at hγ
                      simp only [Option.some.injEq] at hγ; subst hγ; cases hlv
                    · exact hI1.inj γ β o1 _ g cap'' c heq a1 hlv hβ1 rfl hlg hlβ
                  · cases hlv
                · refine ⟨?_, .inl hI.size, fun γ o' cap'' hγ hlv hlg => ?_⟩
                  · cases hΦ : Φ w.heap.size with
                    | none => rfl
                    | some x => have := lt_of_block (hI.frz _ _ hΦ); omega
                  · obtain ⟨o1, a1, a2⟩ := dead_back γ o' hγ
                    rcases a2 with rfl | rfl
                    · have := hI1.lt a1 hlv hlg; omega
                    · cases hlv
              · subst e
                exact List.mem_append.2 (.inr (List.mem_append.2 (.inl (mem_headB.2 ⟨cap, rfl⟩))))
              · rcases List.mem_append.1 hb with hb | hb
                · exact List.mem_append.2 (.inr (List.mem_append.2 (.inr hb)))
                · exact List.mem_append.2 (.inl (List.mem_append.2 (.inr hb)))
              · rw [List.nodup_append]
                exact ⟨kβ.nd, kδ.nd, fun a ha b hb e => by subst e; exact kβ.dj δ _ (fun e => hne e.symm) hδ rfl a ha hb⟩
              · rcases hgl g cap he with ⟨c, e⟩ | rfl
                · subst e
                  refine ⟨fun hm => ?_, .inl (List.mem_append.2 (.inr (List.mem_append.2 (.inl (mem_headB.2 ⟨c, rfl⟩)))))⟩
                  rcases List.mem_append.1 hm with hm | hm
                  · exact kβ.hd g hm β _ c hβ rfl hlβ
                  · exact kδ.hd g hm β _ c hβ rfl hlβ
                · refine ⟨fun hm => ?_, .inr (Nat.le_refl _)⟩
                  rcases List.mem_append.1 hm with hm | hm
                  · have := kβ.lt _ hm; omega
                  · have := kδ.lt _ hm; omega
              · refine LRep.append (hrx.mono fun x vs G hG hx => hx.keep fun b hb' => hch b (kβ.lt b (hG b hb')) fun cap e => ?_) (hry.mono fun x vs G hG hx => hx.keep fun b hb' => hch b (kδ.lt b (hG b hb')) fun cap e => ?_)
                · subst e; exact kβ.hd b (hG b hb') β _ cap hβ rfl hlβ
                · subst e; exact kδ.hd b (hG b hb') β _ cap hβ rfl hlβ
              · have hlen2 : (L ++ [l])[H.length]? = some l := by rw [← hI.len]; simp
                show CVal Φ (L ++ [l]) (.osl H.length (xs ++ ys).length) _
                rw [e2]
                exact osl_of_hdr hlen2 hl0 hl1
            · cases h
          · cases h
        · cases h
      · cases h
    · cases h
  · cases h
end
end Go.Proofs.Ythojapklndjidaa
