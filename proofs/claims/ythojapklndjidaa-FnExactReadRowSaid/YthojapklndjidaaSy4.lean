/- The operations that leave the world alone. -/
import Derived.Test.YthojapklndjidaaSy3
import Derived.Laws.StructEq
namespace Go.Proofs.Ythojapklndjidaa
open Go Go.RowKit
set_option linter.unusedVariables false
set_option linter.all false

inductive TK where
  | int (k : IntKind) | bool | str | sl (e : TypeId) | st (fs : List (Nat × Nat × TypeId)) | ptr (e : TypeId) | map (k e : TypeId) | other | kst (ks : List TK)
structure TI where
  agg : Bool
  size : Nat
  bytes : Nat
  zero : Option (List AV)
  kind : TK
  ok : Bool

def kindOf (P : Program) : TypeDesc → TK
  | .int k => .int k
  | .bool => .bool
  | .string => .str
  | .slice e => .sl e
  | .struct fs => .st (fs.toList.map fun f => (f.offset, ((P.info? f.type).map (·.size)).getD 0, f.type))
  | .pointer e => .ptr e
  | .map k e => .map k e
  | _ => .other

/-- Each field's type has its row; a zero value's cells are single cells. -/
def okOf (P : Program) (i : TypeInfo) (d : TypeDesc) : Bool :=
  (match i.zero with
    | some z => z.cells.toList.all Value.oneCell' && z.cells.size == i.size
    | none => false) &&
  (match d with
    | .struct fs => (fs.toList.mapM (fun f => (P.info? f.type).map fun i => (f.offset, i.size))).isSome
    | _ => true)

def tinfo (P : Program) (t : TypeId) : Option TI :=
  match P.info? t with
  | none => none
  | some i => match P.underlying t with
    | none => none
    | some d => some { agg := aggD d, size := i.size, bytes := i.bytes, zero := i.zero.map fun z => z.cells.toList.map aof, kind := kindOf P d, ok := okOf P i d }

theorem tinfo_spec {P : Program} {t : TypeId} {ti : TI} (h : tinfo P t = some ti) : ∃ i d, P.info? t = some i ∧ P.underlying t = some d ∧ ti = { agg := aggD d, size := i.size, bytes := i.bytes, zero := i.zero.map fun z => z.cells.toList.map aof, kind := kindOf P d, ok := okOf P i d } := by
  unfold tinfo at h
  split at h
  · cases h
  · rename_i i hi
    split at h
    · cases h
    · rename_i d hd
      exact ⟨i, d, hi, hd, by simpa using h.symm⟩

theorem kind_sl {P : Program} {d : TypeDesc} {e : TypeId} (h : kindOf P d = .sl e) : d = .slice e := by
  cases d <;> simp [kindOf] at h; subst h; rfl
theorem kind_int {P : Program} {d : TypeDesc} {k : IntKind} (h : kindOf P d = .int k) : d = .int k := by
  cases d <;> simp [kindOf] at h; subst h; rfl
theorem kind_str {P : Program} {d : TypeDesc} (h : kindOf P d = .str) : d = .string := by
  cases d <;> simp [kindOf] at h; rfl
theorem kind_bool {P : Program} {d : TypeDesc} (h : kindOf P d = .bool) : d = .bool := by
  cases d <;> simp [kindOf] at h; rfl
theorem kind_st {P : Program} {d : TypeDesc} {fs : List (Nat × Nat × TypeId)} (h : kindOf P d = .st fs) : ∃ f, d = .struct f ∧ fs = (f.toList.map fun f => (f.offset, ((P.info? f.type).map (·.size)).getD 0, f.type)) := by
  cases d <;> simp [kindOf] at h; exact ⟨_, rfl, h.symm⟩

theorem tinfo_sl {P : Program} {t e : TypeId} {ti : TI} (h : tinfo P t = some ti) (hk : ti.kind = .sl e) : P.underlying t = some (.slice e) := by
  obtain ⟨i, d, hi, hd, rfl⟩ := tinfo_spec h
  have := kind_sl hk
  subst this; exact hd
theorem tinfo_int {P : Program} {t : TypeId} {k : IntKind} {ti : TI} (h : tinfo P t = some ti) (hk : ti.kind = .int k) : P.underlying t = some (.int k) := by
  obtain ⟨i, d, hi, hd, rfl⟩ := tinfo_spec h
  have := kind_int hk
  subst this; exact hd
theorem tinfo_str {P : Program} {t : TypeId} {ti : TI} (h : tinfo P t = some ti) (hk : ti.kind = .str) : P.underlying t = some .string := by
  obtain ⟨i, d, hi, hd, rfl⟩ := tinfo_spec h
  have := kind_str hk
  subst this; exact hd
theorem tinfo_bool {P : Program} {t : TypeId} {ti : TI} (h : tinfo P t = some ti) (hk : ti.kind = .bool) : P.underlying t = some .bool := by
  obtain ⟨i, d, hi, hd, rfl⟩ := tinfo_spec h
  have := kind_bool hk
  subst this; exact hd
theorem tinfo_info {P : Program} {t : TypeId} {ti : TI} (h : tinfo P t = some ti) : ∃ i, P.info? t = some i ∧ i.size = ti.size ∧ i.bytes = ti.bytes ∧ ti.zero = i.zero.map fun z => z.cells.toList.map aof := by
  obtain ⟨i, d, hi, hd, rfl⟩ := tinfo_spec h
  exact ⟨i, hi, rfl, rfl, rfl⟩

/-- What an operation comes to: what must hold ahead of it, what holds behind it, its value. -/
structure QR where
  pre : Prop
  post : Prop
  av : AV

/-! ### Two words -/

def bAnd (k : IntKind) (a b : Int) : Int := k.wrap ((BitVec.ofInt k.bits a &&& BitVec.ofInt k.bits b).toNat : Int)
def bOr (k : IntKind) (a b : Int) : Int := k.wrap ((BitVec.ofInt k.bits a ||| BitVec.ofInt k.bits b).toNat : Int)
def bXor (k : IntKind) (a b : Int) : Int := k.wrap ((BitVec.ofInt k.bits a ^^^ BitVec.ofInt k.bits b).toNat : Int)
def bShl (k : IntKind) (a b : Int) : Int := k.wrap (a * 2 ^ (min b.toNat k.bits))
def bShr (k : IntKind) (a b : Int) : Int := a.fdiv (2 ^ (min b.toNat k.bits))
def sLt (a b : List UInt8) : Bool := Op.bytesLess a b

def binAV (op : BinOp) : AV → AV → Option QR
  | .int k a, .int k' b =>
    match op with
    | .add => if k = k' then some ⟨True, True, .int k (k.wrap (a + b))⟩ else none
    | .sub => if k = k' then some ⟨True, True, .int k (k.wrap (a - b))⟩ else none
    | .mul => if k = k' then some ⟨True, True, .int k (k.wrap (a * b))⟩ else none
    | .quo => if k = k' then some ⟨b ≠ 0, True, .int k (k.wrap (a.tdiv b))⟩ else none
    | .rem => if k = k' then some ⟨b ≠ 0 ∧ inR k (a.tmod b), True, .int k (a.tmod b)⟩ else none
    | .and => if k = k' then some ⟨True, True, .int k (bAnd k a b)⟩ else none
    | .or => if k = k' then some ⟨True, True, .int k (bOr k a b)⟩ else none
    | .xor => if k = k' then some ⟨True, True, .int k (bXor k a b)⟩ else none
    | .shl => some ⟨0 ≤ b, True, .int k (bShl k a b)⟩
    | .shr => some ⟨0 ≤ b ∧ inR k (bShr k a b), True, .int k (bShr k a b)⟩
    | .eql => if k = k' then some ⟨True, True, .bool (decide (a = b))⟩ else none
    | .neq => if k = k' then some ⟨True, True, .bool (!decide (a = b))⟩ else none
    | .lss => if k = k' then some ⟨True, True, .bool (decide (a < b))⟩ else none
    | .leq => if k = k' then some ⟨True, True, .bool (decide (a ≤ b))⟩ else none
    | .gtr => if k = k' then some ⟨True, True, .bool (decide (b < a))⟩ else none
    | .geq => if k = k' then some ⟨True, True, .bool (decide (b ≤ a))⟩ else none
    | _ => none
  | .str a, .str b =>
    match op with
    | .add => some ⟨a.length + b.length ≤ maxB, True, .str (a ++ b)⟩
    | .eql => some ⟨True, True, .bool (decide (a = b))⟩
    | .neq => some ⟨True, True, .bool (!decide (a = b))⟩
    | .lss => some ⟨True, True, .bool (sLt a b)⟩
    | .leq => some ⟨True, True, .bool (sLt a b || decide (a = b))⟩
    | .gtr => some ⟨True, True, .bool (!(sLt a b || decide (a = b)))⟩
    | .geq => some ⟨True, True, .bool (!sLt a b)⟩
    | _ => none
  | _, _ => none

theorem beq_dec {α : Type} [BEq α] [LawfulBEq α] [DecidableEq α] (a b : α) : (a == b) = decide (a = b) := by
  by_cases h : a = b <;> simp [h]

theorem eqGuard_int {P : Program} {w : World} (op : BinOp) (t : TypeId) (x y : Operand) (k k' : IntKind) (a b : Int) : (eqGuard op t x y (.int k a) (.int k' b)).run P w = .ok () w := by
  cases op <;> rfl
theorem eqGuard_str {P : Program} {w : World} (op : BinOp) (t : TypeId) (x y : Operand) (a b : ByteArray) : (eqGuard op t x y (.string a) (.string b)).run P w = .ok () w := by
  cases op <;> rfl
theorem eqGuard_bool {P : Program} {w : World} (op : BinOp) (t : TypeId) (x y : Operand) (a b : Bool) : (eqGuard op t x y (.bool a) (.bool b)).run P w = .ok () w := by
  cases op <;> rfl

theorem binAV_ok {P : Program} {Φ : Nat → Option Obj} {L : Locs} {op : BinOp} {x y : AV} {r : QR} (h : binAV op x y = some r) (hp : r.pre) {u v : Value} (hu : CVal Φ L x u) (hv : CVal Φ L y v) (t : TypeId) (ox oy : Operand) :
    ∃ z, CVal Φ L r.av z ∧ r.post ∧ ∀ w, (do eqGuard op t ox oy u v; binOp op t u v : Sem Value).run P w = .ok z w := by
  unfold binAV at h
  split at h
  · cases hu; cases hv
    rename_i k a k' b ha hb
    cases op <;> simp only at h <;> (try split at h) <;> simp only [Option.some.injEq, reduceCtorEq] at h <;> subst h <;> (try rename_i hk; subst hk)
    · exact ⟨_, .int _ _ (inR_wrap _ _), trivial, fun w => by simp [Sem.run_bind, eqGuard_int, binOp, Op.intArith]⟩
    · exact ⟨_, .int _ _ (inR_wrap _ _), trivial, fun w => by simp [Sem.run_bind, eqGuard_int, binOp, Op.intArith]⟩
    · exact ⟨_, .int _ _ (inR_wrap _ _), trivial, fun w => by simp [Sem.run_bind, eqGuard_int, binOp, Op.intArith]⟩
    · have hp' : b ≠ 0 := hp
      exact ⟨_, .int _ _ (inR_wrap _ _), trivial, fun w => by simp [Sem.run_bind, eqGuard_int, binOp, Op.intDiv, hp']⟩
    · have hp' : b ≠ 0 := hp.1
      exact ⟨_, .int _ _ hp.2, trivial, fun w => by simp [Sem.run_bind, eqGuard_int, binOp, Op.intDiv, hp']⟩
    · exact ⟨_, .int _ _ (inR_wrap _ _), trivial, fun w => by simp [Sem.run_bind, eqGuard_int, binOp, Op.intBits, bAnd]⟩
    · exact ⟨_, .int _ _ (inR_wrap _ _), trivial, fun w => by simp [Sem.run_bind, eqGuard_int, binOp, Op.intBits, bOr]⟩
    · exact ⟨_, .int _ _ (inR_wrap _ _), trivial, fun w => by simp [Sem.run_bind, eqGuard_int, binOp, Op.intBits, bXor]⟩
    · have hp' : ¬ b < 0 := by have : 0 ≤ b := hp; omega
      exact ⟨_, .int _ _ (inR_wrap _ _), trivial, fun w => by simp [Sem.run_bind, eqGuard_int, binOp, Op.shift, bShl, hp']⟩
    · have hp' : ¬ b < 0 := by have : 0 ≤ b := hp.1; omega
      exact ⟨_, .int _ _ hp.2, trivial, fun w => by simp [Sem.run_bind, eqGuard_int, binOp, Op.shift, bShr, hp']⟩
    · exact ⟨_, .bool _, trivial, fun w => by simp [Sem.run_bind, eqGuard_int, binOp, Op.intCmp, beq_dec]⟩
    · exact ⟨_, .bool _, trivial, fun w => by simp [Sem.run_bind, eqGuard_int, binOp, Op.intCmp, beq_dec, bne]⟩
    · exact ⟨_, .bool _, trivial, fun w => by simp [Sem.run_bind, eqGuard_int, binOp, Op.intCmp]⟩
    · exact ⟨_, .bool _, trivial, fun w => by simp [Sem.run_bind, eqGuard_int, binOp, Op.intCmp]⟩
    · exact ⟨_, .bool _, trivial, fun w => by simp [Sem.run_bind, eqGuard_int, binOp, Op.intCmp]⟩
    · exact ⟨_, .bool _, trivial, fun w => by simp [Sem.run_bind, eqGuard_int, binOp, Op.intCmp]⟩
  · cases hu; cases hv
    rename_i a b ha hb
    cases op <;> simp only [Option.some.injEq, reduceCtorEq] at h <;> subst h
    · have hp' : a.length + b.length ≤ maxB := hp
      refine ⟨_, .str _ (by simpa using hp'), trivial, fun w => ?_⟩
      have hs : ¬ (IntKind.i64.max < ((⟨a.toArray⟩ : ByteArray).size + (⟨b.toArray⟩ : ByteArray).size : Nat)) := by
        simp [ByteArray.size, IntKind.max, IntKind.signed, IntKind.bits]; unfold maxB at hp'; omega
      have he : (⟨a.toArray⟩ : ByteArray) ++ ⟨b.toArray⟩ = ⟨(a ++ b).toArray⟩ := by
        apply ByteArray.ext; simp
      simp only [Sem.run_bind, eqGuard_str, Result.andThen_ok, binOp, Op.stringOp, gt_iff_lt, if_neg hs, Sem.run_pure, he]
    · exact ⟨_, .bool _, trivial, fun w => by simp [Sem.run_bind, eqGuard_str, binOp, Op.stringOp, beq_dec]⟩
    · exact ⟨_, .bool _, trivial, fun w => by simp [Sem.run_bind, eqGuard_str, binOp, Op.stringOp, beq_dec]⟩
    · exact ⟨_, .bool _, trivial, fun w => by simp [Sem.run_bind, eqGuard_str, binOp, Op.stringOp, sLt]⟩
    · exact ⟨_, .bool _, trivial, fun w => by simp [Sem.run_bind, eqGuard_str, binOp, Op.stringOp, sLt, beq_dec]⟩
    · exact ⟨_, .bool _, trivial, fun w => by simp [Sem.run_bind, eqGuard_str, binOp, Op.stringOp, sLt, beq_dec]⟩
    · exact ⟨_, .bool _, trivial, fun w => by simp [Sem.run_bind, eqGuard_str, binOp, Op.stringOp, sLt]⟩
  · cases h
/-! ### Equality that looks at the type -/

def eqv (k : TK) : AV → AV → Option Bool
  | .bool a, .bool b => match k with
    | .bool => some (decide (a = b))
    | _ => none
  | .nilp, y => match k with
    | .ptr _ => match y with
      | .nilp => some true
      | .ptr _ _ => some false
      | .eptr _ _ _ _ => some false
      | .optr _ _ _ _ => some false
      | _ => none
    | _ => none
  | x, .nilp => match k with
    | .ptr _ => match x with
      | .ptr _ _ => some false
      | .eptr _ _ _ _ => some false
      | .optr _ _ _ _ => some false
      | _ => none
    | _ => none
  | _, _ => none

theorem kind_ptr {P : Program} {d : TypeDesc} {e : TypeId} (h : kindOf P d = .ptr e) : d = .pointer e := by
  cases d <;> simp [kindOf] at h; subst h; rfl
theorem tinfo_ptr {P : Program} {t e : TypeId} {ti : TI} (h : tinfo P t = some ti) (hk : ti.kind = .ptr e) : P.underlying t = some (.pointer e) := by
  obtain ⟨i, d, hi, hd, rfl⟩ := tinfo_spec h
  have := kind_ptr hk
  subst this; exact hd

def eqQ (op : BinOp) (ti : TI) (x y : AV) : Option QR := match eqv ti.kind x y with
  | some b => match op with
    | .eql => some ⟨True, True, .bool b⟩
    | .neq => some ⟨True, True, .bool (!b)⟩
    | _ => none
  | none => none

theorem run_under {P : Program} {t : TypeId} {d : TypeDesc} (h : P.underlying t = some d) (w : World) : (Go.underlying t).run P w = .ok d w := run_underlying h w
theorem eqIn_bool {P : Program} (d : Nat) {t : TypeId} (h : P.underlying t = some .bool) (a b : Bool) (w : World) : (Op.equalIn (d + 1) t (.bool a) (.bool b)).run P w = .ok (a == b) w := by
  simp only [Op.equalIn, Sem.run_bind, run_under h, Result.andThen_ok]; rfl
theorem eqIn_nn {P : Program} (d : Nat) {t e : TypeId} (h : P.underlying t = some (.pointer e)) (w : World) : (Op.equalIn (d + 1) t (.pointer none) (.pointer none)).run P w = .ok true w := by
  simp only [Op.equalIn, Sem.run_bind, run_under h, Result.andThen_ok]; rfl
theorem eqIn_np {P : Program} (d : Nat) {t e : TypeId} (h : P.underlying t = some (.pointer e)) (a : Addr) (w : World) : (Op.equalIn (d + 1) t (.pointer none) (.pointer (some a))).run P w = .ok false w := by
  simp only [Op.equalIn, Sem.run_bind, run_under h, Result.andThen_ok]; rfl
theorem eqIn_pn {P : Program} (d : Nat) {t e : TypeId} (h : P.underlying t = some (.pointer e)) (a : Addr) (w : World) : (Op.equalIn (d + 1) t (.pointer (some a)) (.pointer none)).run P w = .ok false w := by
  simp only [Op.equalIn, Sem.run_bind, run_under h, Result.andThen_ok]; rfl
theorem g_ptr {P : Program} (op : BinOp) (t : TypeId) (ox oy : Operand) (a : Option Addr) (b : Value) (w : World) : (eqGuard op t ox oy (.pointer a) b).run P w = .ok () w := by
  cases op <;> rfl

theorem ptr_some {Φ : Nat → Option Obj} {L : Locs} {x : AV} {v : Value} (hv : CVal Φ L x v) (hx : (∃ i o, x = .ptr i o) ∨ (∃ T xs i o, x = .eptr T xs i o) ∨ ∃ b s i o, x = .optr b s i o) : ∃ a, v = .pointer (some a) := by
  rcases hx with ⟨i, o, rfl⟩ | ⟨T, xs, i, o, rfl⟩ | ⟨b, s, i, o, rfl⟩ <;> cases hv <;> exact ⟨_, rfl⟩

theorem eqv_ok {P : Program} {Φ : Nat → Option Obj} {L : Locs} {t : TypeId} {ti : TI} (ht : tinfo P t = some ti) {x y : AV} {b : Bool} (h : eqv ti.kind x y = some b) {u v : Value} (hu : CVal Φ L x u) (hv : CVal Φ L y v) :
    (∀ w, (Op.equal t u v).run P w = .ok b w) ∧ ∀ (op : BinOp) (ox oy : Operand) w, (eqGuard op t ox oy u v).run P w = .ok () w ∧
      (binOp op t u v = match op with
        | .eql => (do pure (.bool (← Op.equal t u v)) : Sem Value)
        | .neq => (do pure (.bool (!(← Op.equal t u v))) : Sem Value)
        | _ => binOp op t u v) := by
  unfold eqv at h
  split at h
  · rename_i a b'
    split at h
    · rename_i hk
      simp only [Option.some.injEq] at h; subst h
      cases hu; cases hv
      refine ⟨fun w => ?_, fun op ox oy w => ⟨eqGuard_bool op t ox oy a b', by cases op <;> rfl⟩⟩
      rw [← beq_dec]; exact eqIn_bool 9999 (tinfo_bool ht hk) a b' w
    · cases h
  · split at h
    · rename_i e hk
      cases hu
      split at h
      · simp only [Option.some.injEq] at h; subst h
        cases hv
        exact ⟨fun w => eqIn_nn 9999 (tinfo_ptr ht hk) w, fun op ox oy w => ⟨g_ptr op t ox oy _ _ w, by cases op <;> rfl⟩⟩
      all_goals first
        | (cases h; done)
        | (simp only [Option.some.injEq] at h; subst h
           obtain ⟨a, rfl⟩ := ptr_some hv (by simp)
           exact ⟨fun w => eqIn_np 9999 (tinfo_ptr ht hk) a w, fun op ox oy w => ⟨g_ptr op t ox oy _ _ w, by cases op <;> rfl⟩⟩)
    · cases h
  · split at h
    · rename_i e hk
      cases hv
      split at h
      all_goals first
        | (cases h; done)
        | (simp only [Option.some.injEq] at h; subst h
           obtain ⟨a, rfl⟩ := ptr_some hu (by simp)
           exact ⟨fun w => eqIn_pn 9999 (tinfo_ptr ht hk) a w, fun op ox oy w => ⟨g_ptr op t ox oy _ _ w, by cases op <;> rfl⟩⟩)
    · cases h
  · cases h

/-! ### Equality of structs of plain words -/

def scK (P : Program) (t : TypeId) : Option TK := match P.underlying t with
  | some (.int k) => some (.int k)
  | some .bool => some .bool
  | some .string => some .str
  | _ => none
def eqKs (P : Program) : Nat → List Field → Option (List TK)
  | _, [] => some []
  | i, f :: r => if f.name ≠ "_" ∧ f.offset = i then match scK P f.type, eqKs P (i + 1) r with
    | some k, some ks => some (k :: ks)
    | _, _ => none
    else none
def eqInfo (P : Program) (t : TypeId) : Option (List TK) := match P.underlying t with
  | some (.struct fs) => if P.stoodInHeld t = false ∧ P.eqGuardType P.depth t = false then eqKs P 0 fs.toList else none
  | _ => none
def eqCells : List TK → List AV → List AV → Option Bool
  | [], [], [] => some true
  | .int k :: ks, .int k1 a :: r, .int k2 b :: r' => if k1 = k ∧ k2 = k then (eqCells ks r r').map (decide (a = b) && ·) else none
  | .bool :: ks, .bool a :: r, .bool b :: r' => (eqCells ks r r').map (decide (a = b) && ·)
  | .str :: ks, .str a :: r, .str b :: r' => (eqCells ks r r').map (decide (a = b) && ·)
  | _, _, _ => none

theorem CVals.of_agg {Φ : Nat → Option Obj} {L : Locs} {cs : List AV} {vs : Array Value} (h : CVal Φ L (.agg cs) (.agg vs)) : CVals Φ L cs vs.toList := by
  cases h with
  | agg _ _ h1 h2 h3 =>
    refine ⟨by simp [h1], fun i c v hc hv => ⟨h2 i v (by simpa using hv), h3 i c v hc (by simpa using hv)⟩⟩

theorem eqIn_str {P : Program} (d : Nat) {t : TypeId} (h : P.underlying t = some .string) (a b : List UInt8) (w : World) : (Op.equalIn (d + 1) t (.string ⟨a.toArray⟩) (.string ⟨b.toArray⟩)).run P w = .ok (decide (a = b)) w := by
  have : ((⟨a.toArray⟩ : ByteArray) == ⟨b.toArray⟩) = decide (a = b) := by
    rw [beq_toListBytes, ByteArray.toList_eq, ByteArray.toList_eq, beq_dec]
  simp only [Op.equalIn, Sem.run_bind, run_under h, Result.andThen_ok]
  rw [this]; rfl
theorem eqIn_int {P : Program} (d : Nat) {t : TypeId} {k : IntKind} (h : P.underlying t = some (.int k)) (a b : Int) (w : World) : (Op.equalIn (d + 1) t (.int k a) (.int k b)).run P w = .ok (decide (a = b)) w := by
  rw [run_equalIn_int w d t k k a b h, beq_dec]
theorem scK_part {P : Program} {t : TypeId} {k : TK} (h : scK P t = some k) {vs : Array Value} {o : Nat} {v : Value} (hv : vs[o]? = some v) (w : World) : (part t vs o).run P w = .ok v w := by
  unfold scK at h
  split at h <;> simp only [Option.some.injEq, reduceCtorEq] at h
  all_goals
    rename_i hu
    unfold part isAgg
    simp only [Sem.run_bind, run_under hu, Result.andThen_ok, Sem.run_ite]
    simp [hv]

theorem eqFields_ok {P : Program} {Φ : Nat → Option Obj} {L : Locs} (d : Nat) {xs ys : Array Value} (w : World) : ∀ {fs : List Field} {i : Nat} {ks : List TK} {cs ds : List AV} {b : Bool}, eqKs P i fs = some ks → eqCells ks cs ds = some b →
    CVals Φ L cs (xs.toList.drop i) → CVals Φ L ds (ys.toList.drop i) → (Op.eqFields (d + 1) xs ys fs).run P w = .ok b w := by
  intro fs
  induction fs with
  | nil =>
    intro i ks cs ds b h1 h2 _ _
    simp only [eqKs, Option.some.injEq] at h1; subst h1
    cases cs <;> cases ds <;> simp [eqCells] at h2
    subst h2; simp [Op.eqFields]
  | cons f fs ih =>
    intro i ks cs ds b h1 h2 hx hy
    simp only [eqKs] at h1
    split at h1
    case isFalse => cases h1
    rename_i hf
    obtain ⟨hf1, hf2⟩ := hf
    split at h1
    case h_2 => cases h1
    rename_i k ks' hk hks
    simp only [Option.some.injEq] at h1; subst h1
    have key : ∃ c cs' e ds' b1 b2, cs = c :: cs' ∧ ds = e :: ds' ∧ eqCells ks' cs' ds' = some b2 ∧ b = (b1 && b2) ∧ ∀ u v, CVal Φ L c u → CVal Φ L e v → (Op.equalIn (d + 1) f.type u v).run P w = .ok b1 w := by
      unfold scK at hk
      split at hk <;> simp only [Option.some.injEq, reduceCtorEq] at hk <;> subst hk <;> rename_i hu
      · rename_i k
        cases cs with
        | nil => simp [eqCells] at h2
        | cons c cs =>
          cases ds with
          | nil => cases c <;> simp [eqCells] at h2
          | cons e ds =>
            cases c <;> cases e <;> simp only [eqCells, reduceCtorEq] at h2
            split at h2
            · rename_i hkk
              obtain ⟨rfl, rfl⟩ := hkk
              simp only [Option.map_eq_some_iff] at h2
              obtain ⟨b2, h2, rfl⟩ := h2
              refine ⟨_, _, _, _, _, b2, rfl, rfl, h2, rfl, fun u v hu' hv' => ?_⟩
              cases hu'; cases hv'
              exact eqIn_int d hu _ _ w
            · cases h2
      · cases cs with
        | nil => simp [eqCells] at h2
        | cons c cs =>
          cases ds with
          | nil => cases c <;> simp [eqCells] at h2
          | cons e ds =>
            cases c <;> cases e <;> simp only [eqCells, reduceCtorEq] at h2
            simp only [Option.map_eq_some_iff] at h2
            obtain ⟨b2, h2, rfl⟩ := h2
            refine ⟨_, _, _, _, _, b2, rfl, rfl, h2, rfl, fun u v hu' hv' => ?_⟩
            cases hu'; cases hv'
            rw [← beq_dec]; exact eqIn_bool d hu _ _ w
      · cases cs with
        | nil => simp [eqCells] at h2
        | cons c cs =>
          cases ds with
          | nil => cases c <;> simp [eqCells] at h2
          | cons e ds =>
            cases c <;> cases e <;> simp only [eqCells, reduceCtorEq] at h2
            simp only [Option.map_eq_some_iff] at h2
            obtain ⟨b2, h2, rfl⟩ := h2
            refine ⟨_, _, _, _, _, b2, rfl, rfl, h2, rfl, fun u v hu' hv' => ?_⟩
            cases hu'; cases hv'
            exact eqIn_str d hu _ _ w
    obtain ⟨c, cs', e, ds', b1, b2, rfl, rfl, h3, rfl, h4⟩ := key
    obtain ⟨u, us, hu, _, hcu, hcs⟩ := hx.inv_cons
    obtain ⟨v, vs, hv, _, hcv, hds⟩ := hy.inv_cons
    have hu0 : xs[i]? = some u := by
      have := congrArg (fun l => l[0]?) hu
      simpa [List.getElem?_drop] using this
    have hv0 : ys[i]? = some v := by
      have := congrArg (fun l => l[0]?) hv
      simpa [List.getElem?_drop] using this
    have hus : us = xs.toList.drop (i + 1) := by
      have := congrArg List.tail hu
      simpa [List.tail_drop] using this.symm
    have hvs : vs = ys.toList.drop (i + 1) := by
      have := congrArg List.tail hv
      simpa [List.tail_drop] using this.symm
    subst hus; subst hvs
    simp only [Op.eqFields]
    rw [if_pos hf1]
    simp only [Sem.run_bind, hf2, scK_part hk hu0 w, scK_part hk hv0 w, Result.andThen_ok, h4 u v hcu hcv]
    cases b1
    · simp
    · simp only [Bool.not_true, Bool.false_eq_true, if_false, Bool.true_and]
      exact ih hks h3 hcs hds

theorem eqInfo_ok {P : Program} {Φ : Nat → Option Obj} {L : Locs} {t : TypeId} {ks : List TK} (h : eqInfo P t = some ks) {cs ds : List AV} {b : Bool} (hb : eqCells ks cs ds = some b) {u v : Value} (hu : CVal Φ L (.agg cs) u) (hv : CVal Φ L (.agg ds) v) :
    (∀ w, (Op.equal t u v).run P w = .ok b w) ∧ ∀ (op : BinOp) (ox oy : Operand) w, (eqGuard op t ox oy u v).run P w = .ok () w ∧
      (binOp op t u v = match op with
        | .eql => (do pure (.bool (← Op.equal t u v)) : Sem Value)
        | .neq => (do pure (.bool (!(← Op.equal t u v))) : Sem Value)
        | _ => binOp op t u v) := by
  unfold eqInfo at h
  split at h
  case h_2 => cases h
  rename_i fs hfs
  split at h
  case isFalse => cases h
  rename_i hg
  have e : P.fieldsOf t = fs := by simp [Program.fieldsOf, hfs]
  cases hu with
  | agg _ xs h1 h2 h3 =>
    cases hv with
    | agg _ ys k1 k2 k3 =>
      refine ⟨fun w => ?_, fun op ox oy w => ⟨run_eqGuard_agg w op t ox oy xs ys hg.2, by cases op <;> rfl⟩⟩
      show (Op.equalIn (9999 + 1) t (.agg xs) (.agg ys)).run P w = _
      rw [run_equalIn_struct w 9999 t xs ys (by rw [e]; exact hfs) hg.1, e]
      exact eqFields_ok 9998 w h hb (by simpa using CVals.of_agg (.agg _ _ h1 h2 h3)) (by simpa using CVals.of_agg (.agg _ _ k1 k2 k3))

/-- A slice and nil. -/
def nilQ (op : BinOp) (ti : TI) (p : Prop) : Option QR := match ti.kind with
  | .sl _ => match op with
    | .eql => some ⟨True, True, .ub p True⟩
    | .neq => some ⟨True, True, .ub True p⟩
    | _ => none
  | _ => none

theorem eqIn_slice {P : Program} (d : Nat) {t e : TypeId} (h : P.underlying t = some (.slice e)) (A : Option Addr) (n c : Nat) (w : World) : (Op.equalIn (d + 1) t (.slice A n c) (.slice none 0 0)).run P w = .ok A.isNone w := by
  cases A <;> (simp only [Op.equalIn, Sem.run_bind, run_under h, Result.andThen_ok]; rfl)

theorem nilQ_ok {P : Program} {Φ : Nat → Option Obj} {L : Locs} {op : BinOp} {t : TypeId} {ti : TI} (ht : tinfo P t = some ti) {p : Prop} {r : QR} (h : nilQ op ti p = some r) {A : Option Addr} {n c : Nat} (hA : A = none → p) (ox oy : Operand) :
    ∃ z, CVal Φ L r.av z ∧ r.post ∧ ∀ w, (do eqGuard op t ox oy (.slice A n c) (.slice none 0 0); binOp op t (.slice A n c) (.slice none 0 0) : Sem Value).run P w = .ok z w := by
  unfold nilQ at h
  split at h
  · rename_i e hk
    have hu := tinfo_sl ht hk
    have hg : ∀ (op : BinOp) w, (eqGuard op t ox oy (.slice A n c) (.slice none 0 0)).run P w = .ok () w := fun op w => by cases op <;> rfl
    split at h
    · simp only [Option.some.injEq] at h; subst h
      refine ⟨.bool A.isNone, .ub _ _ _ (fun e => hA (by simpa using e)) (fun _ => trivial), trivial, fun w => ?_⟩
      rw [Sem.run_bind, hg, Result.andThen_ok]
      show ((do pure (Value.bool (← Op.equal t (.slice A n c) (.slice none 0 0)))) : Sem Value).run P w = _
      simp only [Op.equal, Op.maxDepth, Sem.run_bind]
      rw [eqIn_slice 9999 hu]; rfl
    · simp only [Option.some.injEq] at h; subst h
      refine ⟨.bool (!A.isNone), .ub _ _ _ (fun _ => trivial) (fun e => hA (by simpa using e)), trivial, fun w => ?_⟩
      rw [Sem.run_bind, hg, Result.andThen_ok]
      show ((do pure (Value.bool (!(← Op.equal t (.slice A n c) (.slice none 0 0))))) : Sem Value).run P w = _
      simp only [Op.equal, Op.maxDepth, Sem.run_bind]
      rw [eqIn_slice 9999 hu]; rfl
    · cases h
  · cases h

def binQ (P : Program) (op : BinOp) (t : TypeId) (x y : AV) : Option QR := match binAV op x y with
  | some r => some r
  | none => match x, y with
    | .agg cs, .agg ds => (eqInfo P t).bind fun ks => (eqCells ks cs ds).bind fun b => match op with
      | .eql => some ⟨True, True, .bool b⟩
      | .neq => some ⟨True, True, .bool (!b)⟩
      | _ => none
    | .sl T xs, .nilsl => (tinfo P t).bind fun ti => nilQ op ti (xs.length = 0)
    | .osl β n, .nilsl => (tinfo P t).bind fun ti => nilQ op ti (n = 0)
    | .nilsl, .nilsl => (tinfo P t).bind fun ti => nilQ op ti True
    | x, y => (tinfo P t).bind fun ti => eqQ op ti x y

theorem binQ_ok {P : Program} {Φ : Nat → Option Obj} {L : Locs} {op : BinOp} {t : TypeId} {x y : AV} {r : QR} (h : binQ P op t x y = some r) (hp : r.pre) {u v : Value} (hu : CVal Φ L x u) (hv : CVal Φ L y v) (ox oy : Operand) :
    ∃ z, CVal Φ L r.av z ∧ r.post ∧ ∀ w, (do eqGuard op t ox oy u v; binOp op t u v : Sem Value).run P w = .ok z w := by
  unfold binQ at h
  split at h
  · rename_i r' hr
    simp only [Option.some.injEq] at h; subst h
    exact binAV_ok hr hp hu hv t ox oy
  · split at h
    · obtain ⟨ks, hks, h⟩ := Option.bind_eq_some_iff.1 h
      obtain ⟨b, hb, h⟩ := Option.bind_eq_some_iff.1 h
      obtain ⟨h1, h2⟩ := eqInfo_ok hks hb hu hv
      split at h
      · simp only [Option.some.injEq] at h; subst h
        refine ⟨_, .bool _, trivial, fun w => ?_⟩
        obtain ⟨g1, g2⟩ := h2 .eql ox oy w
        rw [Sem.run_bind, g1, Result.andThen_ok, g2]
        simp [Sem.run_bind, h1]
      · simp only [Option.some.injEq] at h; subst h
        refine ⟨_, .bool _, trivial, fun w => ?_⟩
        obtain ⟨g1, g2⟩ := h2 .neq ox oy w
        rw [Sem.run_bind, g1, Result.andThen_ok, g2]
        simp [Sem.run_bind, h1]
      · cases h
    · obtain ⟨ti, ht, h⟩ := Option.bind_eq_some_iff.1 h
      cases hv
      cases hu with
      | sl _ _ _ hr =>
        obtain ⟨A, cap, hA, _, _, hx⟩ := hr
        simp only [List.cons.injEq, and_true] at hA
        subst hA
        exact nilQ_ok ht h (fun e => by
          rcases hx with hx | ⟨b, o, cs, t, fz, hA, _⟩
          · exact hx
          · rw [e] at hA; cases hA) ox oy
    · obtain ⟨ti, ht, h⟩ := Option.bind_eq_some_iff.1 h
      cases hv
      cases hu with
      | osl _ _ g cap _ _ _ => exact nilQ_ok ht h (fun e => by cases e) ox oy
      | oslnil _ _ _ h0 => exact nilQ_ok ht h (fun _ => h0) ox oy
    · obtain ⟨ti, ht, h⟩ := Option.bind_eq_some_iff.1 h
      cases hv; cases hu
      exact nilQ_ok ht h (fun _ => trivial) ox oy
    · obtain ⟨ti, ht, h⟩ := Option.bind_eq_some_iff.1 h
      unfold eqQ at h
      split at h
      · rename_i b hb
        obtain ⟨h1, h2⟩ := eqv_ok ht hb hu hv
        split at h
        · simp only [Option.some.injEq] at h; subst h
          refine ⟨_, .bool _, trivial, fun w => ?_⟩
          obtain ⟨g1, g2⟩ := h2 .eql ox oy w
          rw [Sem.run_bind, g1, Result.andThen_ok, g2]
          simp [Sem.run_bind, h1]
        · simp only [Option.some.injEq] at h; subst h
          refine ⟨_, .bool _, trivial, fun w => ?_⟩
          obtain ⟨g1, g2⟩ := h2 .neq ox oy w
          rw [Sem.run_bind, g1, Result.andThen_ok, g2]
          simp [Sem.run_bind, h1]
        · cases h
      · cases h
end Go.Proofs.Ythojapklndjidaa
