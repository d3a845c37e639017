/- The quiet operations, one function, and the calls by contract. -/
import Derived.Test.YthojapklndjidaaSyM
import Derived.Laws.BytesString
namespace Go.Proofs.Ythojapklndjidaa
open Go Go.RowKit
set_option linter.unusedVariables false
set_option linter.all false

section
variable {P : Program} {C : Ctx} {Φ : Nat → Option Obj} {L : Locs} {H : List AObj} {w : World}

theorem CVals.of_zero {z : Value} (h1 : ∀ v ∈ z.cells.toList, v.oneCell' = true) : CVals Φ L (z.cells.toList.map aof) z.cells.toList := by
  refine ⟨by simp, fun i c v hc hv => ?_⟩
  rw [List.getElem?_map, hv] at hc
  simp at hc
  subst hc
  exact ⟨h1 v (List.mem_of_getElem? hv), aof_ok Φ L v⟩

theorem zero_cells {t : TypeId} {ti : TI} (ht : tinfo P t = some ti) (hok : ti.ok = true) : ∃ i z, P.info? t = some i ∧ i.zero = some z ∧ i.size = ti.size ∧ i.bytes = ti.bytes ∧ ti.zero = some (z.cells.toList.map aof) ∧ CVals Φ L (z.cells.toList.map aof) z.cells.toList ∧ (∀ v ∈ z.cells.toList, v.oneCell' = true) ∧ z.cells.size = ti.size := by
  obtain ⟨i, d, hi, hd, rfl⟩ := tinfo_spec ht
  simp only [okOf, Bool.and_eq_true] at hok
  obtain ⟨h1, _⟩ := hok
  cases hz : i.zero with
  | none => rw [hz] at h1; cases h1
  | some z =>
    rw [hz] at h1
    simp only [Bool.and_eq_true, beq_iff_eq] at h1
    have h2 : ∀ v ∈ z.cells.toList, v.oneCell' = true := List.all_eq_true.1 h1.1
    exact ⟨i, z, hi, hz, rfl, rfl, by simp [hz], CVals.of_zero h2, h2, h1.2⟩

theorem mapM_get {f : Field → Option (Nat × Nat)} : ∀ {fs : List Field} {places : List (Nat × Nat)}, fs.mapM f = some places → ∀ (i : Nat) x, fs[i]? = some x → ∃ y, places[i]? = some y ∧ f x = some y
  | [], places, h, i, x, hx => by simp at hx
  | f0 :: fs, places, h, i, x, hx => by
    simp only [List.mapM_cons, Option.bind_eq_bind, Option.pure_def] at h
    cases hf : f f0 with
    | none => simp [hf] at h
    | some y =>
      cases hr : fs.mapM f with
      | none => simp [hf, hr] at h
      | some rest =>
        simp [hf, hr] at h
        subst h
        cases i with
        | zero => simp at hx; subst hx; exact ⟨y, rfl, hf⟩
        | succ i => exact mapM_get hr i x (by simpa using hx)

theorem buildQ_ok {t : TypeId} {ti : TI} (ht : tinfo P t = some ti) {parts : List (Nat × AV)} {vparts : Array (Nat × Value)} {r : QR} (h : buildQ ti parts = some r)
    (hl : vparts.size = parts.length) (hp : ∀ (j : Nat) p q, parts[j]? = some p → vparts[j]? = some q → p.1 = q.1 ∧ CVal Φ L p.2 q.2) :
    ∃ v, CVal Φ L r.av v ∧ r.post ∧ ∀ w', (Instr.build t vparts).run P w' = .ok v w' := by
  unfold buildQ at h
  split at h
  · rename_i fs z hk hz0
    split at h
    · rename_i hcell
      obtain ⟨hok, hcell⟩ := hcell
      split at h
      · rename_i cs hf
        simp only [Option.some.injEq] at h; subst h
        obtain ⟨i, zv, hi, hzv, _, _, hze, hzc, _, _⟩ := zero_cells (Φ := Φ) (L := L) ht hok
        rw [hz0] at hze
        simp only [Option.some.injEq] at hze
        subst hze
        obtain ⟨i', d, hi', hd, rfl⟩ := tinfo_spec ht
        rw [hi] at hi'; simp only [Option.some.injEq] at hi'; subst hi'
        obtain ⟨f, rfl, rfl⟩ := kind_st hk
        simp only [okOf, Bool.and_eq_true] at hok
        obtain ⟨_, hpl⟩ := hok
        obtain ⟨places, hpl⟩ := Option.isSome_iff_exists.1 hpl
        have hplace : ∀ (i o s : Nat) (t : TypeId), (f.toList.map fun f => (f.offset, ((P.info? f.type).map (·.size)).getD 0, f.type))[i]? = some (o, s, t) → (places.toArray[i]?) = some (o, s) := by
          intro i o s t hx
          rw [List.getElem?_map] at hx
          cases hfi : f.toList[i]? with
          | none => rw [hfi] at hx; simp at hx
          | some fl =>
            rw [hfi] at hx
            simp only [Option.map_some, Option.some.injEq, Prod.mk.injEq] at hx
            obtain ⟨rfl, rfl, rfl⟩ := hx
            obtain ⟨y, hy, hfy⟩ := mapM_get hpl i fl hfi
            cases hft : P.info? fl.type with
            | none => rw [hft] at hfy; simp at hfy
            | some it =>
              rw [hft] at hfy
              simp at hfy
              subst hfy
              simpa using hy
        obtain ⟨ws, h1, h2⟩ := fillA_ok (place := (places.toArray[·]?)) hplace (parts := parts) (vparts := vparts.toList) hzc hf (by simpa using hl) (fun j p q hj hq => by
          obtain ⟨e1, e2⟩ := hp j p q hj (by simpa using hq)
          exact ⟨e1, e2, by have := List.all_eq_true.1 hcell p (List.mem_of_getElem? hj); exact this⟩)
        refine ⟨.agg ws, ?_, trivial, fun w' => run_build w' t vparts ws ?_⟩
        · have := packV_ok h2; simpa using this
        · unfold Program.built
          simp only [hi, hd, hzv, hpl, h1]
      · cases h
    · cases h
  · cases h

/-! ### The choice at the end of '&&' and '||' -/

def sv : AV → Bool × AV
  | .opt c v => (c, v)
  | v => (true, v)

theorem sv_ok {x : AV} {v : Value} (h : CVal Φ L x v) (hc : (sv x).1 = true) : CVal Φ L (sv x).2 v := by
  cases h <;> first | (rename_i h1 h2; exact h1 hc) | skip
  all_goals first | exact .any _ | exact .bool _ | exact .int _ _ ‹_› | exact .str _ ‹_› | exact .sl _ _ _ ‹_› | exact .nilsl | exact .ub _ _ _ ‹_› ‹_› | exact .osl _ _ _ _ ‹_› ‹_› ‹_› | exact .oslnil _ _ ‹_› ‹_› | exact .ptr _ _ _ _ ‹_› | exact .eptr _ _ _ _ _ _ _ ‹_› ‹_› | exact .optr _ _ _ _ _ _ ‹_› | exact .nilp | exact .nilfn | exact .nili | exact .omap _ _ _ ‹_› | exact .agg _ _ ‹_› ‹_› ‹_› | exact .tup _ _ ‹_› ‹_› | exact .fn _ _ _ ‹_› ‹_›

def mergeAV (c : Bool) : AV → AV → Option AV
  | .bool a, .bool b => some (.bool (bif c then a else b))
  | .int k a, .int k' b => if k = k' then some (.int k (bif c then a else b)) else none
  | .str a, .str b => some (.str (bif c then a else b))
  | _, _ => none

theorem mergeAV_ok {c : Bool} {x y z : AV} (h : mergeAV c x y = some z) {u v : Value} (hu : c = true → CVal Φ L x u) (hv : c = false → CVal Φ L y v) : CVal Φ L z (if c then u else v) := by
  unfold mergeAV at h
  split at h
  · simp only [Option.some.injEq] at h; subst h
    cases c
    · cases hv rfl; exact .bool _
    · cases hu rfl; exact .bool _
  · split at h
    · rename_i hk; subst hk
      simp only [Option.some.injEq] at h; subst h
      cases c
      · cases hv rfl; exact .int _ _ ‹_›
      · cases hu rfl; exact .int _ _ ‹_›
    · cases h
  · simp only [Option.some.injEq] at h; subst h
    cases c
    · cases hv rfl; exact .str _ ‹_›
    · cases hu rfl; exact .str _ ‹_›
  · cases h

/-- One side is not known: the other one is taken. -/
def isAny : AV → Bool
  | .any => true
  | _ => false
def pickOne (cb p : Bool) (a b : Bool × AV) : Option QR :=
  if isAny b.2 = true then some ⟨p = true ∧ a.1 = true ∧ cb = true, True, a.2⟩
  else if isAny a.2 = true then some ⟨p = true ∧ b.1 = true ∧ cb = false, True, b.2⟩ else none
def pickQ (c a b : AV) : Option QR :=
  match (sv c).2 with
  | .bool cb => match mergeAV cb (sv a).2 (sv b).2 with
    | some z => some ⟨(sv c).1 = true ∧ (cb = true → (sv a).1 = true) ∧ (cb = false → (sv b).1 = true), True, z⟩
    | none => pickOne cb (sv c).1 (sv a) (sv b)
  | _ => none

/-! ### The quiet operations -/

/-- The operands' words, what is asked that they be there. -/
def useAll (ev : Operand → AV) : List Operand → Prop
  | [] => True
  | x :: r => (sv (ev x)).1 = true ∧ useAll ev r

theorem useAll_mem {ev : Operand → AV} : ∀ {xs : List Operand}, useAll ev xs → ∀ x ∈ xs, (sv (ev x)).1 = true
  | [], _, x, hx => by cases hx
  | y :: r, h, x, hx => by
    cases hx with
    | head => exact h.1
    | tail _ hx => exact useAll_mem h.2 x hx

/-! ### string(b) -/

def byteTy (P : Program) (ts : TI) : Bool := match ts.kind with
  | .sl e => match tinfo P e with
    | some te => match te.kind with
      | .int .u8 => true
      | _ => false
    | none => false
  | _ => false

def b2sQ (P : Program) (ts td : TI) (H : List AObj) (x : AV) : Option QR :=
  if byteTy P ts = true then match td.kind with
    | .str => match x with
      | .sl .byte xs => some ⟨True, True, .str xs⟩
      | .osl β n => match H[β]? with
        | some (.arr .byte _ xs) => some ⟨n ≤ xs.length, True, .str (xs.take n)⟩
        | _ => none
      | .nilsl => some ⟨True, True, .str []⟩
      | _ => none
    | _ => none
  else none

theorem push_all : ∀ (xs : List UInt8) (s : ByteArray), (xs.map fun b => (b.toNat : Int)).foldl (fun r n => r.push (UInt8.ofNat n.toNat)) s = ⟨s.data ++ xs.toArray⟩
  | [], s => by cases s; simp
  | b :: xs, s => by
    simp only [List.map_cons, List.foldl_cons]
    rw [push_all xs]
    cases s with
    | mk d => simp [ByteArray.push]

theorem run_b2s {w : World} {A : Option Addr} {n cap : Nat} {xs : List UInt8} (hn : xs.length = n) (hA : A = none → n = 0) (hc : ∀ a, A = some a → ∀ (j : Nat) (h : j < xs.length), w.cell? (a.add j) = some (.int .u8 ((xs[j]'h).toNat : Int))) :
    (Conv.bytesToString (.slice A n cap)).run P w = .ok (.string ⟨xs.toArray⟩) w := by
  cases A with
  | none =>
    have : xs = [] := List.eq_nil_of_length_eq_zero (by rw [hn]; exact hA rfl)
    subst this
    simp only [Conv.bytesToString, Sem.run_pure]
    rfl
  | some a =>
    have hl := run_loadCells_list (P := P) w a (xs.map fun b => Value.int .u8 (b.toNat : Int)) (fun j v hj => by
      rw [List.getElem?_map] at hj
      cases hx : xs[j]? with
      | none => rw [hx] at hj; simp at hj
      | some b =>
        rw [hx] at hj; simp at hj; subst hj
        obtain ⟨hlt, hb⟩ := List.getElem?_eq_some_iff.1 hx
        rw [hc a rfl j hlt, hb])
    rw [List.length_map, hn] at hl
    have e : (xs.map fun b => Value.int .u8 (b.toNat : Int)) = (xs.map fun b => (b.toNat : Int)).map (Value.int .u8) := by simp
    rw [e] at hl
    rw [run_bytesToString w a n cap _ hl, push_all]
    simp [ByteArray.empty, ByteArray.emptyWithCapacity]
    rfl

theorem b2sQ_ok {src dst : TypeId} {ts td : TI} (hs : tinfo P src = some ts) (hd : tinfo P dst = some td) {x : AV} {r : QR} (h : b2sQ P ts td H x = some r) (hp : r.pre) (hI : Inv C Φ L H w) {u : Value} (hu : CVal Φ L x u) :
    ∃ v, CVal Φ L r.av v ∧ r.post ∧ ∀ w', Agr Φ L H w w' → (convert src dst u).run P w' = .ok v w' := by
  unfold b2sQ at h
  split at h
  · rename_i hb
    unfold byteTy at hb
    split at hb
    · rename_i e hk
      split at hb
      · rename_i te hte
        split at hb
        · rename_i hke
          have hus := tinfo_sl hs hk
          have hue := tinfo_int hte hke
          split at h
          · rename_i hdk
            have hud := tinfo_str hd hdk
            have fin : ∀ {A : Option Addr} {n cap : Nat} {w' : World} {v : Value}, (Conv.bytesToString (.slice A n cap)).run P w' = .ok v w' → (convert src dst (.slice A n cap)).run P w' = .ok v w' := fun {A n cap w' v} hr => by
              unfold convert
              simp only [Sem.run_bind, run_underlying hus, run_underlying hud, Result.andThen_ok]
              simp only [Sem.run_bind, run_underlying hue, Result.andThen_ok]
              exact hr
            split at h
            · rename_i xs
              simp only [Option.some.injEq] at h; subst h
              cases hu with
              | sl _ _ _ hr =>
                obtain ⟨A, cap, hA, hlc, hm, hx⟩ := id hr
                simp only [List.cons.injEq, and_true] at hA
                subst hA
                refine ⟨.string ⟨(xs : List UInt8).toArray⟩, .str _ (Nat.le_trans hlc hm), trivial, fun w' hag => fin (run_b2s rfl ?_ ?_)⟩
                · intro e
                  rcases hx with hx | ⟨b, o, cs, t, fz, hA, _⟩
                  · exact hx
                  · rw [e] at hA; cases hA
                · intro a ha j hj
                  rcases hx with hx | ⟨b, o, cs, t, fz, hA, hbk, hx⟩
                  · have : (xs : List UInt8).length = 0 := hx
                    omega
                  · rw [hA] at ha; simp only [Option.some.injEq] at ha; subst ha
                    obtain ⟨ws, h1, h2⟩ := hx j hj
                    have h1 : ws = [.int .u8 ((xs[j]'hj : UInt8).toNat : Int)] := h1
                    subst h1
                    have := h2 0 _ rfl
                    rw [add_none]
                    have hw' : w'.heap[b]? = some (.cells cs t fz) := by rw [hag.1 _ _ hbk]; exact hI.frz _ _ hbk
                    rw [cell_of_row w' b _ cs t fz hw']
                    simpa [Ty.size] using this
            · rename_i β n
              split at h
              · rename_i e' xs ho
                simp only [Option.some.injEq] at h; subst h
                obtain ⟨l, cells, hl, hown, hr⟩ := hI.row ho
                have hn : n ≤ (xs : List UInt8).length := hp
                have hxl : ((xs : List UInt8).take n).length = n := by simp; omega
                have hmx : (xs : List UInt8).length ≤ maxB := by
                  rcases hown.2 with ⟨_, h0⟩ | ⟨g, cap, cur, _, _, _, hle, hm, _⟩
                  · have : (xs : List UInt8).length = 0 := h0
                    omega
                  · exact Nat.le_trans hle hm
                have hstr : CVal Φ L (.str ((xs : List UInt8).take n)) (.string ⟨((xs : List UInt8).take n).toArray⟩) := .str _ (by rw [hxl]; omega)
                cases hu with
                | osl _ _ g cap hl' _ _ =>
                  rw [hl] at hl'; simp only [Option.some.injEq] at hl'; subst hl'
                  refine ⟨_, hstr, trivial, fun w' hag => fin (run_b2s hxl (fun e => by cases e) fun a ha j hj => ?_)⟩
                  simp only [Option.some.injEq] at ha; subst ha
                  rw [hxl] at hj
                  obtain ⟨ws, h1, h2⟩ := hI.row_elem ho hl j (by omega)
                  have h1 : ws = [.int .u8 ((xs[j]'(by omega) : UInt8).toNat : Int)] := h1
                  subst h1
                  have := h2 0 _ rfl
                  rw [add_none]
                  have hbk := hag.2 β _ g cap ho rfl hl
                  rw [World.cell?_of_block (w := w) (a := ⟨g, 0 + j, none⟩) hbk]
                  have hjj : ((xs : List UInt8).take n)[j]'(by rw [hxl]; exact hj) = (xs : List UInt8)[j]'(by omega) := by simp
                  rw [hjj]
                  simpa [Ty.size] using this
                | oslnil _ _ hl' h0 =>
                  subst h0
                  exact ⟨_, hstr, trivial, fun w' hag => fin (run_b2s (by simp) (fun _ => rfl) fun a ha => by cases ha)⟩
              · cases h
            · simp only [Option.some.injEq] at h; subst h
              cases hu
              exact ⟨.string ⟨([] : List UInt8).toArray⟩, .str _ (Nat.zero_le _), trivial, fun w' hag => fin (run_b2s (xs := []) rfl (fun _ => rfl) fun a ha => by cases ha)⟩
            · cases h
          · cases h
        · cases hb
      · cases hb
    · cases hb
  · cases h

def qop1 (P : Program) (H : List AObj) (ev : Operand → AV) (o : Op) : Option QR :=
  match o with
  | .move x => some ⟨True, True, ev x⟩
  | .assign x => some ⟨True, True, ev x⟩
  | .load t x => (tinfo P t).bind fun ti => loadQ ti H (ev x)
  | .fieldAddr t x j => (tinfo P t).bind fun ti => faddrQ ti j (ev x)
  | .field t x j => (tinfo P t).bind fun ti => fieldQ P ti j (ev x)
  | .indexAddr t x i => (tinfo P t).bind fun ti => iaddrQ P ti (ev x) (ev i)
  | .lookup t m k ok => (mapInfo P t).bind fun mi => lookupQ mi H (ev m) (ev k) ok
  | .index t x i => (tinfo P t).bind fun ti => indexQ ti (ev x) (ev i)
  | .binOp op t x y _ => binQ P op t (ev x) (ev y)
  | .unOp op _ x => unAV op (ev x)
  | .convert s d x => (tinfo P s).bind fun ts => (tinfo P d).bind fun td => match convQ ts td (ev x) with
    | some r => some r
    | none => b2sQ P ts td H (ev x)
  | .slice t x lo hi mx => (tinfo P t).bind fun ti => sliceQ P ti (ev x) (lo.map ev) (hi.map ev) (mx.map ev)
  | .nilCheck x => match ev x with
    | .ptr γ o => some ⟨True, True, .ptr γ o⟩
    | .eptr T xs i o => some ⟨True, True, .eptr T xs i o⟩
    | .optr b s i o => some ⟨True, True, .optr b s i o⟩
    | _ => none
  | .extract x i => match ev x with
    | .tup vs => match vs[i]? with
      | some v => some ⟨True, True, v⟩
      | none => none
    | _ => none
  | .build t parts => (tinfo P t).bind fun ti => buildQ ti (parts.toList.map fun p => (p.1, ev p.2))
  | .makeFunc fn first caps => match fn, first.toList with
    | .func f, [] => some ⟨True, True, .fn f (caps.toList.map ev)⟩
    | _, _ => none
  | .call c => match c.callee with
    | .builtin .len => match c.args.toList, c.argTypes.toList with
      | [x], [t] => match ev x with
        | .omap γ => (mapInfo P t).bind fun mi => lenMapQ mi H (.omap γ)
        | _ => (tinfo P t).bind fun ti => lenQ ti (ev x)
      | _, _ => none
    | .builtin .max => match c.args.toList with
      | [x, y] => maxQ [ev x, ev y]
      | _ => none
    | .builtin .min => match c.args.toList with
      | [x, y] => minQ [ev x, ev y]
      | _ => none
    | _ => none
  | _ => none

def qop (P : Program) (H : List AObj) (ev : Operand → AV) (o : Op) : Option QR :=
  match o with
  | .pick c a b => pickQ (ev c) (ev a) (ev b)
  | o => (qop1 P H (fun x => (sv (ev x)).2) o).map fun r => ⟨useAll ev o.operands.toList ∧ r.pre, r.post, r.av⟩

theorem run_v (s : Sem Value) (w : World) (v : Value) (h : s.run P w = .ok v w) : (do pure (Next.value (← s)) : Sem Next).run P w = .ok (.value v) w := by
  simp only [Sem.run_bind, h, Result.andThen_ok, Sem.run_pure]

theorem qop1_ok {ev : Operand → AV} {ρ : Operand → Value} {o : Oper} {r : QR} (h : qop1 P H ev o.op = some r) (hp : r.pre) (hI : Inv C Φ L H w) (hE : ∀ x ∈ o.op.operands.toList, CVal Φ L (ev x) (ρ x)) :
    ∃ v, CVal Φ L r.av v ∧ r.post ∧ ∀ w', Agr Φ L H w w' → (execOp ρ o).run P w' = .ok (.value v) w' := by
  obtain ⟨dst, op, ty, pos, after, guard⟩ := o
  simp only at h hE
  cases op <;> simp only [qop1, Option.bind_eq_some_iff, reduceCtorEq] at h
  case move x =>
    simp only [Option.some.injEq] at h; subst h
    exact ⟨ρ x, hE x (by simp [Op.operands]), trivial, fun w' _ => rfl⟩
  case assign x =>
    simp only [Option.some.injEq] at h; subst h
    exact ⟨ρ x, hE x (by simp [Op.operands]), trivial, fun w' _ => rfl⟩
  case lookup t m k ok =>
    obtain ⟨mi, hmi, h⟩ := h
    obtain ⟨v, h1, h2, h3⟩ := lookupQ_ok hmi h hI (hE m (by simp [Op.operands])) (hE k (by simp [Op.operands]))
    exact ⟨v, h1, h2, fun w' hb => run_v _ _ _ (h3 w' hb)⟩
  case load t x =>
    obtain ⟨ti, ht, h⟩ := h
    obtain ⟨v, h1, h2, h3⟩ := loadQ_ok ht h hp hI (hE x (by simp [Op.operands]))
    exact ⟨v, h1, h2, fun w' hb => run_v _ _ _ (h3 w' hb)⟩
  case fieldAddr t x j =>
    obtain ⟨ti, ht, h⟩ := h
    obtain ⟨v, h1, h2, h3⟩ := faddrQ_ok ht h (hE x (by simp [Op.operands]))
    exact ⟨v, h1, h2, fun w' hb => run_v _ _ _ (h3 w')⟩
  case field t x j =>
    obtain ⟨ti, ht, h⟩ := h
    obtain ⟨v, h1, h2, h3⟩ := fieldQ_ok ht h (hE x (by simp [Op.operands]))
    exact ⟨v, h1, h2, fun w' hb => run_v _ _ _ (h3 w')⟩
  case indexAddr t x i =>
    obtain ⟨ti, ht, h⟩ := h
    obtain ⟨v, h1, h2, h3⟩ := iaddrQ_ok ht h hp (hE x (by simp [Op.operands])) (hE i (by simp [Op.operands]))
    exact ⟨v, h1, h2, fun w' hb => run_v _ _ _ (h3 w')⟩
  case index t x i =>
    obtain ⟨ti, ht, h⟩ := h
    obtain ⟨v, h1, h2, h3⟩ := indexQ_ok ht h hp (hE x (by simp [Op.operands])) (hE i (by simp [Op.operands]))
    exact ⟨v, h1, h2, fun w' hb => run_v _ _ _ (h3 w')⟩
  case binOp op t x y t' =>
    obtain ⟨v, h1, h2, h3⟩ := binQ_ok (P := P) h hp (hE x (by simp [Op.operands])) (hE y (by simp [Op.operands])) x y
    exact ⟨v, h1, h2, fun w' hb => run_v _ _ _ (h3 w')⟩
  case unOp op t x =>
    obtain ⟨v, h1, h2, h3⟩ := unAV_ok (P := P) h (hE x (by simp [Op.operands]))
    exact ⟨v, h1, h2, fun w' hb => run_v _ _ _ (h3 w')⟩
  case convert s d x =>
    obtain ⟨ts, hs, td, hd, h⟩ := h
    split at h
    · rename_i r' hr
      simp only [Option.some.injEq] at h; subst h
      obtain ⟨v, h1, h2, h3⟩ := convQ_ok hs hd hr (hE x (by simp [Op.operands]))
      exact ⟨v, h1, h2, fun w' hb => run_v _ _ _ (h3 w')⟩
    · obtain ⟨v, h1, h2, h3⟩ := b2sQ_ok hs hd h hp hI (hE x (by simp [Op.operands]))
      exact ⟨v, h1, h2, fun w' hb => run_v _ _ _ (h3 w' hb)⟩
  case slice t x lo hi mx =>
    obtain ⟨ti, ht, h⟩ := h
    obtain ⟨v, h1, h2, h3⟩ := sliceQ_ok ht h hp (hE x (by simp [Op.operands])) (OptC.map ev ρ lo fun y hy => hE y (by subst hy; simp [Op.operands])) (OptC.map ev ρ hi fun y hy => hE y (by subst hy; simp [Op.operands])) (OptC.map ev ρ mx fun y hy => hE y (by subst hy; simp [Op.operands]))
    exact ⟨v, h1, h2, fun w' hb => run_v _ _ _ (h3 w')⟩
  case nilCheck x =>
    have hx := hE x (by simp [Op.operands])
    split at h <;> simp only [Option.some.injEq, reduceCtorEq] at h <;> subst h
    all_goals
      rename_i heq
      rw [heq] at hx
      refine ⟨ρ x, hx, trivial, fun w' _ => ?_⟩
      obtain ⟨ad, he⟩ : ∃ ad, ρ x = .pointer (some ad) := by
        generalize ρ x = v at hx
        cases hx <;> exact ⟨_, rfl⟩
      simp [execOp, he]
  case extract x i =>
    have hx := hE x (by simp [Op.operands])
    split at h
    · rename_i vs heq
      rw [heq] at hx
      split at h
      · rename_i v hv
        simp only [Option.some.injEq] at h; subst h
        obtain ⟨us, hus, hsz, hall⟩ : ∃ us : Array Value, ρ x = .tuple us ∧ us.size = vs.length ∧ ∀ (i : Nat) c v, vs[i]? = some c → us[i]? = some v → CVal Φ L c v := by
          generalize ρ x = u at hx
          cases hx with
          | tup _ us h1 h2 => exact ⟨us, rfl, h1, h2⟩
        have hlt : i < us.size := by rw [hsz]; exact (List.getElem?_eq_some_iff.1 hv).1
        refine ⟨us[i], hall i v _ hv (Array.getElem?_eq_getElem hlt), trivial, fun w' _ => ?_⟩
        simp [execOp, hus, Instr.extract, hlt]
      · cases h
    · cases h
  case build t parts =>
    obtain ⟨ti, ht, h⟩ := h
    obtain ⟨v, h1, h2, h3⟩ := buildQ_ok (vparts := parts.map fun (i, x) => (i, ρ x)) ht h (by simp) (fun j p q hj hq => by
      rw [List.getElem?_map] at hj
      rw [Array.getElem?_map] at hq
      cases hjj : parts[j]? with
      | none => rw [hjj] at hq; simp at hq
      | some z =>
        rw [hjj] at hq
        rw [show parts.toList[j]? = some z by simpa using hjj] at hj
        simp at hj hq
        subst hj; subst hq
        refine ⟨rfl, hE z.2 ?_⟩
        simp only [Op.operands, List.mem_map]
        exact ⟨z, by have := List.mem_of_getElem? (show parts.toList[j]? = some z by simpa using hjj); exact this, rfl⟩)
    exact ⟨v, h1, h2, fun w' hb => run_v _ _ _ (h3 w')⟩
  case makeFunc fn first caps =>
    split at h
    · rename_i f hf
      · simp only [Option.some.injEq] at h; subst h
        have hf' : first = #[] := by simpa using hf
        subst hf'
        refine ⟨.func (.func f) #[] (caps.map ρ), .fn f _ _ (by simp) (fun i c v hc hv => ?_), trivial, fun w' _ => by simp [execOp, Instr.makeFunc]⟩
        rw [List.getElem?_map] at hc
        rw [Array.getElem?_map] at hv
        cases hci : caps[i]? with
        | none => rw [hci] at hv; simp at hv
        | some z =>
          rw [hci] at hv
          rw [show caps.toList[i]? = some z by simpa using hci] at hc
          simp at hc hv
          subst hc; subst hv
          refine hE z ?_
          simp only [Op.operands]
          have := Array.mem_of_getElem? hci
          simpa using this
    · cases h
  case call c =>
    obtain ⟨callee, args, argTypes⟩ := c
    simp only at h hE
    split at h
    · split at h
      · rename_i x t ha hta
        obtain rfl : args = #[x] := by simpa using congrArg List.toArray ha
        obtain rfl : argTypes = #[t] := by simpa using congrArg List.toArray hta
        split at h
        · rename_i γ hx
          simp only [Option.bind_eq_some_iff] at h
          obtain ⟨mi, hmi, h⟩ := h
          have hv := hE x (by simp [Op.operands, Call.operands])
          rw [hx] at hv
          obtain ⟨v, h1, h2, h3⟩ := lenMapQ_ok (ty := ty) hmi h hp hI hv
          refine ⟨v, h1, h2, fun w' hb => ?_⟩
          simp [execOp, resolve, invoke, builtin, h3 w' hb]
        · simp only [Option.bind_eq_some_iff] at h
          obtain ⟨ti, ht, h⟩ := h
          obtain ⟨v, h1, h2, h3⟩ := lenQ_ok (ty := ty) ht h (hE x (by simp [Op.operands, Call.operands]))
          refine ⟨v, h1, h2, fun w' hb => ?_⟩
          simp [execOp, resolve, invoke, builtin, h3 w']
      · cases h
    · split at h
      · rename_i x y ha
        obtain rfl : args = #[x, y] := by simpa using congrArg List.toArray ha
        obtain ⟨v, h1, h2, h3⟩ := maxQ_ok (P := P) (ts := argTypes) (ty := ty) h (hE x (by simp [Op.operands, Call.operands])) (hE y (by simp [Op.operands, Call.operands]))
        refine ⟨v, h1, h2, fun w' hb => ?_⟩
        simp [execOp, resolve, invoke, builtin, h3 w']
      · cases h
    · split at h
      · rename_i x y ha
        obtain rfl : args = #[x, y] := by simpa using congrArg List.toArray ha
        obtain ⟨v, h1, h2, h3⟩ := minQ_ok (P := P) (ts := argTypes) (ty := ty) h (hE x (by simp [Op.operands, Call.operands])) (hE y (by simp [Op.operands, Call.operands]))
        refine ⟨v, h1, h2, fun w' hb => ?_⟩
        simp [execOp, resolve, invoke, builtin, h3 w']
      · cases h
    · cases h

theorem qop_ok {ev : Operand → AV} {ρ : Operand → Value} {o : Oper} {r : QR} (h : qop P H ev o.op = some r) (hp : r.pre) (hI : Inv C Φ L H w) (hE : ∀ x, CVal Φ L (ev x) (ρ x)) :
    ∃ v, CVal Φ L r.av v ∧ r.post ∧ ∀ w', Agr Φ L H w w' → (execOp ρ o).run P w' = .ok (.value v) w' := by
  by_cases hpick : ∃ c a b, o.op = .pick c a b
  · obtain ⟨c, a, b, ho⟩ := hpick
    rw [ho] at h
    simp only [qop, pickQ] at h
    split at h
    · rename_i cb hcb
      split at h
      · rename_i z hz
        simp only [Option.some.injEq] at h; subst h
        obtain ⟨p1, p2, p3⟩ := hp
        have hc := sv_ok (hE c) p1
        rw [hcb] at hc
        have hc' : ρ c = .bool cb := by generalize ρ c = u at hc; cases hc; rfl
        refine ⟨if cb then ρ a else ρ b, mergeAV_ok hz (fun h => sv_ok (hE a) (p2 h)) (fun h => sv_ok (hE b) (p3 h)), trivial, fun w' _ => ?_⟩
        unfold execOp
        simp [ho, asBool, hc']
      · unfold pickOne at h
        split at h
        · simp only [Option.some.injEq] at h; subst h
          obtain ⟨p1, p2, p3⟩ := hp
          subst p3
          have hc := sv_ok (hE c) p1
          rw [hcb] at hc
          have hc' : ρ c = .bool true := by generalize ρ c = u at hc; cases hc; rfl
          refine ⟨ρ a, sv_ok (hE a) p2, trivial, fun w' _ => ?_⟩
          unfold execOp
          simp [ho, asBool, hc']
        · split at h
          · simp only [Option.some.injEq] at h; subst h
            obtain ⟨p1, p2, p3⟩ := hp
            subst p3
            have hc := sv_ok (hE c) p1
            rw [hcb] at hc
            have hc' : ρ c = .bool false := by generalize ρ c = u at hc; cases hc; rfl
            refine ⟨ρ b, sv_ok (hE b) p2, trivial, fun w' _ => ?_⟩
            unfold execOp
            simp [ho, asBool, hc']
          · cases h
    · cases h
  · have : ∀ r, (qop1 P H (fun x => (sv (ev x)).2) o.op).map (fun r => (⟨useAll ev o.op.operands.toList ∧ r.pre, r.post, r.av⟩ : QR)) = some r → _ := fun r h => h
    have h' : (qop1 P H (fun x => (sv (ev x)).2) o.op).map (fun r => (⟨useAll ev o.op.operands.toList ∧ r.pre, r.post, r.av⟩ : QR)) = some r := by
      rw [← h]
      unfold qop
      split
      · rename_i c a b ho; exact absurd ⟨c, a, b, ho⟩ hpick
      · rfl
    simp only [Option.map_eq_some_iff] at h'
    obtain ⟨r', h1, rfl⟩ := h'
    have hp1 : useAll ev o.op.operands.toList := hp.1
    have hp2 : r'.pre := hp.2
    have hfin := qop1_ok (ev := fun x => (sv (ev x)).2) h1 hp2 hI fun x hx => sv_ok (hE x) (useAll_mem hp1 x hx)
    exact hfin
end
end Go.Proofs.Ythojapklndjidaa
