/- Slices written out, slices of zeros. -/
import Derived.Test.YthojapklndjidaaSy11
namespace Go.Proofs.Ythojapklndjidaa
open Go Go.RowKit
set_option linter.unusedVariables false
set_option linter.all false

section
variable {P : Program} {C : Ctx} {Φ : Nat → Option Obj} {L : Locs} {H : List AObj} {w : World}

def unflatN (T : Ty) : Nat → List AV → Option (List T.D)
  | 0, [] => some []
  | 0, _ :: _ => none
  | n + 1, cs => match unflat T cs with
    | some (x, r) => match unflatN T n r with
      | some xs => some (x :: xs)
      | none => none
    | none => none

theorem unflatN_ok {T : Ty} : ∀ {n : Nat} {cs : List AV} {xs : List T.D} {vs : List Value}, unflatN T n cs = some xs → CVals Φ L cs vs → RepL Φ T xs vs ∧ xs.length = n
  | 0, [], xs, vs, h, hc => by
    simp only [unflatN, Option.some.injEq] at h
    subst h
    rw [hc.inv_nil]; exact ⟨rfl, rfl⟩
  | 0, _ :: _, xs, vs, h, hc => by simp [unflatN] at h
  | n + 1, cs, xs, vs, h, hc => by
    simp only [unflatN] at h
    split at h
    · rename_i x r h1
      split at h
      · rename_i ys h2
        simp only [Option.some.injEq] at h; subst h
        obtain ⟨v1, v2, rfl, e1, e2⟩ := unflat_ok h1 hc
        obtain ⟨e3, e4⟩ := unflatN_ok h2 e2
        exact ⟨⟨v1, v2, rfl, e1, e3⟩, by simp [e4]⟩
      · cases h
    · cases h

/-- The parts stand in order, each with its number. -/
def inOrder : Nat → List Nat → Bool
  | _, [] => true
  | k, i :: r => i == k && inOrder (k + 1) r

def buildSliceE (τ : TypeId → Option Ty) (H : List AObj) (e : TypeId) (te : TI) (len : Nat) (parts : List (Nat × AV)) : Option ER :=
  match τ e with
  | some T =>
    if te.ok = true ∧ te.size = T.size ∧ 0 < T.size ∧ len = parts.length ∧ len * T.size ≤ 16777216 ∧ inOrder 0 (parts.map (·.1)) = true ∧ parts.all (fun p => isCell p.2 && (cellsA p.2).length == T.size) = true then
      match solid H (parts.flatMap fun p => cellsA p.2) with
      | some (p, cs, H') => match unflatN T len cs with
        | some xs => some ⟨p, .osl H.length xs.length, H' ++ [.arr T e xs]⟩
        | none => none
      | none => none
    else none
  | none => none

theorem fill_all {size : Nat} : ∀ {parts : List (Nat × Value)} {k : Nat} {cur : Array Value} , inOrder k (parts.map (·.1)) = true → (∀ p ∈ parts, p.2.cells.size = size) → k * size + parts.length * size ≤ cur.size →
    ∃ ws, Instr.fill (fun i => some (i * size, size)) cur parts = some ws ∧ ws.toList = cur.toList.take (k * size) ++ parts.flatMap (fun p => p.2.cells.toList) ++ cur.toList.drop (k * size + parts.length * size)
  | [], k, cur, ho, hs, hle => ⟨cur, rfl, by simp⟩
  | (i, v) :: parts, k, cur, ho, hs, hle => by
    simp only [List.map_cons, inOrder, Bool.and_eq_true, beq_iff_eq] at ho
    obtain ⟨rfl, ho⟩ := ho
    have hv : v.cells.size = size := hs (i, v) (by simp)
    have hle' : i * size + (parts.length * size + size) ≤ cur.size := by rw [List.length_cons, Nat.succ_mul] at hle; omega
    have hfold := foldl_set (off := i * size) v.cells.toList 0 cur (by simp; omega)
    simp only [Nat.add_zero] at hfold
    have hz : v.cells.zipIdx.foldl (fun cs (x : Value × Nat) => cs.setIfInBounds (i * size + x.2) x.1) cur = (v.cells.toList.zipIdx 0).foldl (fun cs (c : Value × Nat) => cs.setIfInBounds (i * size + c.2) c.1) cur := by
      rw [← Array.foldl_toList]; simp
    have hvl : v.cells.toList.length = size := by rw [Array.length_toList]; exact hv
    have hsz : ((v.cells.toList.zipIdx 0).foldl (fun cs (c : Value × Nat) => cs.setIfInBounds (i * size + c.2) c.1) cur).size = cur.size := by
      rw [← Array.length_toList, hfold]
      simp only [List.length_append, List.length_take, List.length_drop, Array.length_toList]; omega
    obtain ⟨ws, h1, h2⟩ := fill_all (parts := parts) (k := i + 1) (cur := (v.cells.toList.zipIdx 0).foldl (fun cs (c : Value × Nat) => cs.setIfInBounds (i * size + c.2) c.1) cur) ho (fun p hp => hs p (by simp [hp])) (by rw [hsz, Nat.succ_mul]; omega)
    refine ⟨ws, ?_, ?_⟩
    · simp only [Instr.fill]
      split
      · rename_i hx
        simp [hv] at hx; omega
      · rw [← h1]; congr 1
    · rw [h2, hfold]
      have e1 : (i + 1) * size = i * size + size := Nat.succ_mul _ _
      have hcl : cur.toList.length = cur.size := Array.length_toList
      have e2 : (List.take (i * size) cur.toList ++ v.cells.toList ++ List.drop (i * size + v.cells.toList.length) cur.toList).take ((i + 1) * size) = List.take (i * size) cur.toList ++ v.cells.toList := by
        apply List.take_left'
        simp only [List.length_append, List.length_take]; omega
      have e3 : (List.take (i * size) cur.toList ++ v.cells.toList ++ List.drop (i * size + v.cells.toList.length) cur.toList).drop ((i + 1) * size + parts.length * size) = cur.toList.drop (i * size + ((i, v) :: parts).length * size) := by
        rw [List.drop_append, List.drop_of_length_le (by simp only [List.length_append, List.length_take]; omega), List.nil_append, List.drop_drop]
        congr 1
        simp only [List.length_append, List.length_take, List.length_cons, Nat.succ_mul]; omega
      rw [e2, e3]
      simp

theorem CVals.flatMap : ∀ {parts : List (Nat × AV)} {vparts : List (Nat × Value)}, vparts.length = parts.length → (∀ (j : Nat) p q, parts[j]? = some p → vparts[j]? = some q → p.1 = q.1 ∧ CVal Φ L p.2 q.2) → (∀ p ∈ parts, isCell p.2 = true) →
    CVals Φ L (parts.flatMap fun p => cellsA p.2) (vparts.flatMap fun p => p.2.cells.toList) ∧ vparts.map (·.1) = parts.map (·.1) ∧ ∀ (j : Nat) p q, parts[j]? = some p → vparts[j]? = some q → q.2.cells.size = (cellsA p.2).length
  | [], [], _, _, _ => ⟨.nil, rfl, fun j p q h => by simp at h⟩
  | [], _ :: _, h, _, _ => by simp at h
  | _ :: _, [], h, _, _ => by simp at h
  | p :: ps, q :: qs, hl, hp, hc => by
    obtain ⟨e1, e2⟩ := hp 0 p q rfl rfl
    obtain ⟨h1, h2, h3⟩ := CVals.flatMap (parts := ps) (vparts := qs) (by simpa using hl) (fun j p q hj hq => hp (j + 1) p q (by simpa using hj) (by simpa using hq)) (fun p hp => hc p (by simp [hp]))
    have hcv := cellsA_ok e2 (hc p (by simp))
    refine ⟨by simpa using hcv.append h1, by simp [e1, h2], fun j p' q' hj hq => ?_⟩
    cases j with
    | zero =>
      simp at hj hq; subst hj; subst hq
      have := hcv.1; rwa [Array.length_toList] at this
    | succ j => exact h3 j p' q' (by simpa using hj) (by simpa using hq)

theorem buildSliceE_ok (hI : Inv C Φ L H w) {τ : TypeId → Option Ty} {t e : TypeId} {te : TI} (ht : P.underlying t = some (.slice e)) (hte : tinfo P e = some te) {len : Nat} {parts : List (Nat × AV)} {vparts : Array (Nat × Value)} {r : ER}
    (h : buildSliceE τ H e te len parts = some r) (hp : r.pre) (hl : vparts.size = parts.length) (hall : ∀ (j : Nat) p q, parts[j]? = some p → vparts[j]? = some q → p.1 = q.1 ∧ CVal Φ L p.2 q.2) :
    ∃ v' w', (Instr.buildSlice t len vparts).run P w = .ok v' w' ∧ EPost C Φ L r v' w' := by
  unfold buildSliceE at h
  split at h
  · rename_i T hτ
    split at h
    · rename_i hc
      obtain ⟨hok, hsz, hpos, hlen, hbig, hord, hcell⟩ := hc
      have hlen64 : len ≤ 16777216 := Nat.le_trans (Nat.le_mul_of_pos_right len hpos) hbig
      split at h
      · rename_i p cs H' hsol
        split at h
        · rename_i xs hun
          simp only [Option.some.injEq] at h; subst h
          obtain ⟨i, z, hi, hz, his, hib, _, _, _, hzc⟩ := zero_cells (Φ := Φ) (L := L) hte hok
          have hcell' : ∀ p ∈ parts, isCell p.2 = true ∧ (cellsA p.2).length = T.size := fun p hp => by
            have := List.all_eq_true.1 hcell p hp
            simpa using this
          obtain ⟨h1, h2, h3⟩ := CVals.flatMap (Φ := Φ) (L := L) (parts := parts) (vparts := vparts.toList) (by simpa using hl) (fun j p q hj hq => hall j p q hj (by simpa using hq)) (fun p hp => (hcell' p hp).1)
          obtain ⟨Φ', hm, hI', hsv⟩ := solid_ok hI hsol hp
          have hrep := unflatN_ok hun (hsv _ h1)
          have hvs : ∀ q ∈ vparts.toList, q.2.cells.size = T.size := fun q hq => by
            obtain ⟨j, hj, rfl⟩ := List.mem_iff_getElem.1 hq
            have hjp : j < parts.length := by rw [← hl]; simpa using hj
            rw [h3 j _ _ (List.getElem?_eq_getElem hjp) (List.getElem?_eq_getElem hj)]
            exact (hcell' _ (List.getElem_mem hjp)).2
          have hisz : i.size = T.size := by rw [his, hsz]
          -- the start of the row
          have hvl : vparts.toList.length = len := by rw [Array.length_toList, hl, hlen]
          obtain ⟨ws, hf, hwl⟩ := fill_all (size := T.size) (parts := vparts.toList) (k := 0) (cur := (Array.range (len * T.size)).map ((if len * T.size = 0 then #[] else z.cells)[· % (if len * T.size = 0 then #[] else z.cells).size]!)) (by rw [h2]; exact hord) hvs (by rw [hvl]; simp)
          have hwl' : ws.toList = vparts.toList.flatMap fun p => p.2.cells.toList := by
            rw [hwl]; simp [hvl]
          have hwsz : ws.size = len * T.size := by
            rw [← Array.length_toList, hwl']
            have := hrep.1.length
            have e := (hsv _ h1).1
            rw [this, hrep.2]
          refine ⟨.slice (some ⟨w.heap.size, 0, none⟩) len len, w.alloc (.cells ws e), ?_, Φ', L ++ [some (w.heap.size, len)], hm, Locs.snoc _, ?_, ?_⟩
          · have hbig' : ¬ len * i.size > 16777216 := by rw [hisz]; omega
            rw [← hisz] at hf
            unfold Instr.buildSlice
            by_cases h0 : len * i.size = 0
            · rw [h0] at hf
              have e0 : ∀ f : Nat → Value, (Array.range 0).map f = #[] := fun f => by simp
              rw [e0] at hf
              simp [run_underlying ht, sizeOf, typeInfo, hi, h0, newRow]
              rw [e0, hf]
              simp
            · simp only [h0, if_false] at hf
              simp [run_underlying ht, sizeOf, typeInfo, hi, hbig', zeroValue, hz, newRow]
              rw [if_neg h0]
              simp [hf]
          · have hn : xs.length = len := hrep.2
            refine hI'.alloc_new ((Below.refl _ _).alloc (Nat.le_refl _) _) len rfl fun L' hL' => ⟨ws.toList, ?_, ?_⟩
            · rw [hn]
              refine ⟨by rw [Array.length_toList]; exact hwsz, .inr ⟨w.heap.size, len, ws, rfl, Nat.zero_le _, heap_alloc_new w _, Nat.le_refl _, ?_, hwsz, ?_⟩⟩
              · rw [maxLen_eq]; omega
              · rw [List.take_of_length_le (by rw [Array.length_toList]; omega)]
            · rw [hwl']; exact hrep.1
          · have hn : xs.length = len := hrep.2
            show CVal Φ' _ (.osl H.length xs.length) _
            rw [hn]
            exact .osl _ _ w.heap.size len (by rw [← hI.len]; simp) (Nat.le_refl _) (by rw [maxB_eq]; omega)
        · cases h
      · cases h
    · cases h
  · cases h

/-- make([]T, n). -/
def makeE (τ : TypeId → Option Ty) (H : List AObj) (e : TypeId) (te : TI) (l c : AV) : Option ER :=
  match τ e, te.zero, l, c with
  | some T, some z, .int _ n, .int _ m => match unflat1 T z with
    | some x => if te.ok = true ∧ te.size = T.size then some ⟨0 ≤ n ∧ n = m ∧ te.bytes * n.toNat ≤ 281474976710656 ∧ n ≤ 9223372036854775807, .osl H.length n.toNat, H ++ [.arr T e (List.replicate n.toNat x)]⟩ else none
    | none => none
  | _, _, _, _ => none

theorem RepL.zeros {T : Ty} {x : T.D} {z : Array Value} (hx : RepT Φ T x z.toList) (n : Nat) : RepL Φ T (List.replicate n x) (madeCells z (n * T.size)).toList := by
  have hzl := hx.length
  rw [Array.length_toList] at hzl
  refine RepL.of_get (by simp [madeCells]) fun i hi => ?_
  simp only [List.length_replicate] at hi
  refine ⟨z.toList, by simpa using hx, fun j v hj => ?_⟩
  have hjl : j < z.toList.length := (List.getElem?_eq_some_iff.1 hj).1
  rw [Array.length_toList] at hjl
  have hb : i * T.size + T.size ≤ n * T.size := by rw [← Nat.succ_mul]; exact Nat.mul_le_mul_right _ hi
  have hlt : i * T.size + j < n * T.size := by omega
  have hmod : (i * T.size + j) % z.size = j := by
    rw [hzl, Nat.mul_comm, Nat.mul_add_mod]; exact Nat.mod_eq_of_lt (by omega)
  have hz' : z[j]? = some v := by simpa using hj
  simp [madeCells, hlt, hmod, getElem!_def, hz']

theorem makeE_ok (hI : Inv C Φ L H w) {τ : TypeId → Option Ty} {t e : TypeId} {te : TI} (ht : P.underlying t = some (.slice e)) (hte : tinfo P e = some te) {l c : AV} {r : ER} (h : makeE τ H e te l c = some r) (hp : r.pre)
    {u v : Value} (hu : CVal Φ L l u) (hv : CVal Φ L c v) : ∃ v' w', (Instr.makeSlice t u v).run P w = .ok v' w' ∧ EPost C Φ L r v' w' := by
  unfold makeE at h
  split at h
  · rename_i T z k n k' m hτ hz0
    split at h
    · rename_i x hx
      split at h
      · rename_i hc
        simp only [Option.some.injEq] at h; subst h
        obtain ⟨hok, hsz⟩ := hc
        obtain ⟨hp1, rfl, hp3, hp4⟩ := hp
        obtain ⟨i, zv, hi, hz, his, hib, hze, hzcs, _, hzc⟩ := zero_cells (Φ := Φ) (L := L) hte hok
        rw [hz0] at hze; simp only [Option.some.injEq] at hze; subst hze
        cases hu; cases hv
        have hrep := unflat1_ok hx hzcs
        obtain ⟨N, rfl⟩ := Int.eq_ofNat_of_zero_le hp1
        simp only [Int.toNat_natCast] at hp3 ⊢
        obtain ⟨w', h1, h2, h3⟩ := run_make_full (P := P) w 0 t e i zv T.size ht hi hz (by rw [his, hsz]) k k' N (by rw [hib]; exact hp3) (by rw [maxLen_eq]; omega) (Nat.zero_le _)
        have hN : N ≤ maxB := by rw [maxB_eq]; omega
        have hb : Below w.heap.size w w' := ⟨h3.os, h3.tape, h3.output, h3.size, fun k hk => h3.block k hk (by simp)⟩
        refine ⟨_, w', h1, Φ, L ++ [some (w.heap.size, N)], More.refl _, Locs.snoc _, ?_, ?_⟩
        · refine hI.alloc_new hb N rfl fun L' hL' => ⟨_, ?_, RepL.zeros hrep N⟩
          simpa [hdr] using h2
        · exact .osl _ _ w.heap.size N (by rw [← hI.len]; simp) (Nat.le_refl _) hN
      · cases h
    · cases h
  · cases h

/-! ### Strings and bytes -/

theorem bytes_ints : ∀ {xs : List UInt8} {cs : List Value}, RepL Φ .byte xs cs → cs = (xs.map fun b => Value.int .u8 (b.toNat : Int))
  | [], cs, h => h
  | x :: xs, cs, h => by
    obtain ⟨v1, v2, rfl, h1, h2⟩ := h
    have h1 : v1 = _ := h1
    rw [h1, bytes_ints h2]; rfl

/-- string(b). -/
def strOf (H : List AObj) (ts td : TI) (x : AV) : Option QR :=
  match ts.kind, td.kind with
  | .sl _, .str => match srcOf .byte H x with
    | some (p, ys) => some ⟨p ∧ ys.length ≤ 9223372036854775807, True, .str ys⟩
    | none => none
  | _, _ => none
end
end Go.Proofs.Ythojapklndjidaa
