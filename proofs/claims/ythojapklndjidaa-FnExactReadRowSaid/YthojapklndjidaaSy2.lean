/- The symbolic state, how a world agrees with it, and the rules for the flow of control. -/
import Derived.Test.YthojapklndjidaaSy1
namespace Go.Proofs.Ythojapklndjidaa
open Go Go.RowKit
set_option linter.all false
set_option linter.unusedVariables false

inductive AObj where
  | dead
  | cells (t : TypeId) (cs : List AV)
  | arr (T : Ty) (e : TypeId) (xs : List T.D)
  | frz (T : Ty) (xs : List T.D)
  | map (K V : Ty) (xs : List (K.D × V.D))
  | deep (d : DT) (e : TypeId) (xs : List d.ty.D)
  | ope (d : DT) (e : TypeId) (xs : List d.ty.D) (i : Nat) (ws : List AV)
deriving Inhabited

@[simp] def AObj.live : AObj → Bool
  | .cells .. => true
  | .arr .. => true
  | .map .. => true
  | .deep .. => true
  | .ope .. => true
  | _ => false

def hdr : Option (Nat × Nat) → Nat → Value
  | none, _ => .slice none 0 0
  | some (g, cap), n => .slice (some ⟨g, 0, none⟩) n cap

def RepL (Φ : Nat → Option Obj) (T : Ty) : List T.D → List Value → Prop
  | [], cs => cs = []
  | x :: xs, cs => ∃ v1 v2, cs = v1 ++ v2 ∧ RepT Φ T x v1 ∧ RepL Φ T xs v2

theorem RepL.more {Φ Φ' : Nat → Option Obj} (hm : More Φ Φ') {T : Ty} : ∀ {xs : List T.D} {cs : List Value}, RepL Φ T xs cs → RepL Φ' T xs cs
  | [], _, h => h
  | x :: xs, _, h => by obtain ⟨v1, v2, rfl, h1, h2⟩ := h; exact ⟨v1, v2, rfl, h1.more hm, h2.more hm⟩

/-- A map's key: one word, or a struct of words. -/
def isPair : Ty → Bool
  | .pair _ _ => true
  | _ => false
def KRep (Φ : Nat → Option Obj) (K : Ty) (x : K.D) (v : Value) : Prop := if isPair K = true then ∃ vs : Array Value, v = .agg vs ∧ RepT Φ K x vs.toList else RepT Φ K x [v]
theorem KRep.more {Φ Φ' : Nat → Option Obj} (hm : More Φ Φ') {K : Ty} {x : K.D} {v : Value} (h : KRep Φ K x v) : KRep Φ' K x v := by
  unfold KRep at h ⊢
  split at h
  · rename_i hp
    rw [if_pos hp]
    obtain ⟨vs, h1, h2⟩ := h
    exact ⟨vs, h1, h2.more hm⟩
  · rename_i hp
    rw [if_neg hp]
    exact RepT.more hm h

/-- The entries of a map, in the order of their coming. -/
def Ents (Φ : Nat → Option Obj) (K V : Ty) : List (K.D × V.D) → List MapEntry → Prop
  | [], es => es = []
  | x :: xs, es => ∃ e r, es = e :: r ∧ KRep Φ K x.1 e.key ∧ RepT Φ V x.2 [e.val] ∧ Ents Φ K V xs r

theorem Ents.more {Φ Φ' : Nat → Option Obj} (hm : More Φ Φ') {K V : Ty} : ∀ {xs : List (K.D × V.D)} {es : List MapEntry}, Ents Φ K V xs es → Ents Φ' K V xs es
  | [], _, h => h
  | x :: xs, _, h => by obtain ⟨e, r, rfl, h1, h2, h3⟩ := h; exact ⟨e, r, rfl, h1.more hm, h2.more hm, h3.more hm⟩

def ObjOk (Φ : Nat → Option Obj) (L : Locs) (w : World) (l : Option (Nat × Nat)) : AObj → Prop
  | .dead => True
  | .cells t cs => ∃ g cap vs, l = some (g, cap) ∧ w.heap[g]? = some (.cells vs t (0, 0)) ∧ CVals Φ L cs vs.toList
  | .arr T e xs => ∃ cells, w.ownsRow 0 e T.size (hdr l xs.length) xs.length cells ∧ RepL Φ T xs cells
  | .frz T xs => RepT Φ (.sl T) xs [hdr l xs.length]
  | .map K V xs => ∃ g cap es clock, l = some (g, cap) ∧ w.heap[g]? = some (.map es clock) ∧ Ents Φ K V xs es.toList
  | .deep d e xs => ∃ cells, w.ownsRow 0 e d.ty.size (hdr l xs.length) xs.length cells
  | .ope d e xs i ws => ∃ cells, w.ownsRow 0 e d.ty.size (hdr l xs.length) xs.length cells

/-! ### Data that own their memory -/

/-- A list of data, cell by cell, and the blocks that they own. -/
def LRep {α : Type} (R : α → List Value → List Nat → Prop) : List α → List Value → List Nat → Prop
  | [], cs, F => cs = [] ∧ F = []
  | x :: xs, cs, F => ∃ v1 v2 F1 F2, cs = v1 ++ v2 ∧ F = F1 ++ F2 ∧ R x v1 F1 ∧ LRep R xs v2 F2

def headB : Option (Nat × Nat) → List Nat
  | none => []
  | some (g, _) => [g]

/-- The cells of a datum that owns its memory; F: the blocks. -/
def RepO (w : World) : (d : DT) → d.ty.D → List Value → List Nat → Prop
  | .leaf T, x, vs, F => F = [] ∧ flatTy T = true ∧ RepT (fun _ => none) T x vs
  | .pair a b, x, vs, F => ∃ v1 v2 F1 F2, vs = v1 ++ v2 ∧ F = F1 ++ F2 ∧ RepO w a x.1 v1 F1 ∧ RepO w b x.2 v2 F2
  | .sl e d, xs, vs, F => ∃ l cells F', vs = [hdr l xs.length] ∧ F = headB l ++ F' ∧ w.ownsRow 0 e d.ty.size (hdr l xs.length) xs.length cells ∧ LRep (RepO w d) xs cells F'

/-- What lies behind an array whose elements own memory. -/
def Dp (Φ : Nat → Option Obj) (L : Locs) (w : World) (l : Option (Nat × Nat)) (F : List Nat) : AObj → Prop
  | .deep d e xs => ∃ cells, w.ownsRow 0 e d.ty.size (hdr l xs.length) xs.length cells ∧ LRep (RepO w d) xs cells F
  | .ope d e xs i ws => ∃ c1 c2 c3 F1 F2, i < xs.length ∧ w.ownsRow 0 e d.ty.size (hdr l xs.length) xs.length (c1 ++ c2 ++ c3) ∧ LRep (RepO w d) (xs.take i) c1 F1 ∧
      CVals Φ L ws c2 ∧ ws.length = d.ty.size ∧ LRep (RepO w d) (xs.drop (i + 1)) c3 F2 ∧ F = F1 ++ F2
  | _ => F = []

structure Ctx where
  w0 : World
  Φ0 : Nat → Option Obj
  W : List Nat
  L0 : Locs := []

structure Inv0 (C : Ctx) (Φ : Nat → Option Obj) (L : Locs) (H : List AObj) (w : World) : Prop where
  len : L.length = H.length
  frz : ∀ b o, Φ b = some o → w.heap[b]? = some o
  base : More C.Φ0 Φ
  glob : GlOk Φ
  fresh : ∀ b o, Φ b = some o → C.Φ0 b = some o ∨ C.w0.heap.size ≤ b ∨ b ∈ C.W
  os : w.os = C.w0.os
  tape : w.tape = C.w0.tape
  output : w.output = C.w0.output
  size : C.w0.heap.size ≤ w.heap.size
  keep : ∀ b, b < C.w0.heap.size → b ∉ C.W → w.heap[b]? = C.w0.heap[b]?
  obj : ∀ (γ : Nat) o, H[γ]? = some o → ∃ l, L[γ]? = some l ∧ ObjOk Φ L w l o
  own : ∀ (γ : Nat) o g cap, H[γ]? = some o → o.live = true → L[γ]? = some (some (g, cap)) → Φ g = none ∧ (C.w0.heap.size ≤ g ∨ g ∈ C.W)
  inj : ∀ (γ δ : Nat) o o' g cap cap', γ ≠ δ → H[γ]? = some o → o.live = true → H[δ]? = some o' → o'.live = true → L[γ]? = some (some (g, cap)) → L[δ]? = some (some (g, cap')) → False
  pre : ∀ (i : Nat) x, C.L0[i]? = some x → L[i]? = some x

structure InD (C : Ctx) (Φ : Nat → Option Obj) (L : Locs) (H : List AObj) (w : World) (F : Nat → List Nat) (γ : Nat) (o : AObj) : Prop where
  is : ∃ l, L[γ]? = some l ∧ Dp Φ L w l (F γ) o
  nd : (F γ).Nodup
  lt : ∀ b ∈ F γ, b < w.heap.size
  fr : ∀ b ∈ F γ, Φ b = none
  old : ∀ b ∈ F γ, C.w0.heap.size ≤ b ∨ b ∈ C.W
  hd : ∀ b ∈ F γ, ∀ (δ : Nat) o' cap, H[δ]? = some o' → o'.live = true → L[δ]? = some (some (b, cap)) → False
  dj : ∀ (δ : Nat) o', δ ≠ γ → H[δ]? = some o' → o'.live = true → ∀ b ∈ F γ, b ∉ F δ

/-- The blocks that lie behind the names, and belong to them. -/
def Deep (C : Ctx) (Φ : Nat → Option Obj) (L : Locs) (H : List AObj) (w : World) : Prop :=
  ∃ F : Nat → List Nat, ∀ (γ : Nat) o, H[γ]? = some o → o.live = true → InD C Φ L H w F γ o

structure Inv (C : Ctx) (Φ : Nat → Option Obj) (L : Locs) (H : List AObj) (w : World) : Prop extends Inv0 C Φ L H w where
  deep : Deep C Φ L H w

structure St where
  tmps : List AV
  heap : List AObj

structure Conc (C : Ctx) (Φ : Nat → Option Obj) (L : Locs) (S : St) (a : Act) (w : World) : Prop where
  defers : a.defers = []
  size : a.tmps.size = S.tmps.length
  tmps : ∀ (i : Nat) c v, S.tmps[i]? = some c → a.tmps[i]? = some v → CVal Φ L c v
  inv : Inv C Φ L S.heap w

inductive AExit where
  | normal
  | exit (id : Nat)
  | ret
@[simp] def AExit.to : AExit → Exit
  | .normal => .normal
  | .exit id => .exit id
  | .ret => .ret

/-- What the code does from a symbolic state on. -/
def Post (C : Ctx) (Q : AExit → St → Prop) (e : Exit) (a : Act) (w : World) : Prop :=
  ∃ x S Φ L, e = AExit.to x ∧ Q x S ∧ Conc C Φ L S a w

def AWp (P : Program) (C : Ctx) (c : Code) (S : St) (Q : AExit → St → Prop) : Prop :=
  ∀ Φ L a w, Conc C Φ L S a w → c.wp P (Post C Q) a w

/-! ### Operands -/

def aof : Value → AV
  | .bool b => .bool b
  | .int k n => if inR k n then .int k n else .any
  | .string b => if b.data.toList.length ≤ maxB then .str b.data.toList else .any
  | .slice none 0 0 => .nilsl
  | .pointer none => .nilp
  | .nilFunc => .nilfn
  | .nilIface => .nili
  | _ => .any

theorem aof_ok (Φ : Nat → Option Obj) (L : Locs) (v : Value) : CVal Φ L (aof v) v := by
  unfold aof
  split
  · exact .bool _
  · split
    · rename_i h; exact .int _ _ h
    · exact .any _
  · split
    · rename_i b h; have := CVal.str (Φ := Φ) (L := L) b.data.toList h; simpa using this
    · exact .any _
  · exact .nilsl
  · exact .nilp
  · exact .nilfn
  · exact .nili
  · exact .any _

def aev (S : St) : Operand → AV
  | .tmp t => (S.tmps[t]?).getD .any
  | .const v => aof v
  | .func f => .fn f []
  | .global g => gl g

theorem aev_ok {C : Ctx} {Φ : Nat → Option Obj} {L : Locs} {S : St} {a : Act} {w : World} (h : Conc C Φ L S a w) (x : Operand) : CVal Φ L (aev S x) (a.eval x) := by
  cases x with
  | tmp t =>
    simp only [aev, Act.eval]
    by_cases ht : t < S.tmps.length
    · have hv : a.tmps[t]? = some (a.tmps[t]'(by rw [h.size]; exact ht)) := Array.getElem?_eq_getElem _
      have hc : S.tmps[t]? = some S.tmps[t] := List.getElem?_eq_getElem ht
      rw [hc]
      have := h.tmps t _ _ hc hv
      simpa [Array.getD_eq_getD_getElem?, hv] using this
    · have hn : S.tmps[t]? = none := List.getElem?_eq_none_iff.2 (Nat.le_of_not_lt ht)
      rw [hn]; exact .any _
  | const v => exact aof_ok Φ L v
  | func f => exact .fn f [] #[] rfl (fun i c v h => by simp at h)
  | global g => exact (h.inv.glob.1 g).mono (More.refl _) (fun i x h => by simp at h)

/-! ### The flow of control -/
section
variable {P : Program} {C : Ctx} {S : St} {Q : AExit → St → Prop}

theorem AWp.mono {c : Code} {Q' : AExit → St → Prop} (h : AWp P C c S Q) (hq : ∀ e S, Q e S → Q' e S) : AWp P C c S Q' :=
  fun Φ L a w hc => Code.wp_mono (fun e a w ⟨x, S', Φ', L', he, hx, hc'⟩ => ⟨x, S', Φ', L', he, hq _ _ hx, hc'⟩) (h Φ L a w hc)

theorem AWp_skip (h : Q .normal S) : AWp P C .skip S Q := fun Φ L a w hc => wp_skip ⟨.normal, S, Φ, L, rfl, h, hc⟩
theorem AWp_label {l : Nat} (h : Q .normal S) : AWp P C (.label l) S Q := fun Φ L a w hc => wp_label ⟨.normal, S, Φ, L, rfl, h, hc⟩
theorem AWp_exit {id : Nat} (h : Q (.exit id) S) : AWp P C (.exit id) S Q := fun Φ L a w hc => wp_exit ⟨.exit id, S, Φ, L, rfl, h, hc⟩
theorem AWp_ret (h : Q .ret S) : AWp P C .ret S Q := fun Φ L a w hc => wp_ret ⟨.ret, S, Φ, L, rfl, h, hc⟩

def thenQ (K : St → Prop) (Q : AExit → St → Prop) : AExit → St → Prop
  | .normal, S => K S
  | .exit i, S => Q (.exit i) S
  | .ret, S => Q .ret S

theorem AWp_seq {x y : Code} (h : AWp P C x S (thenQ (fun S' => AWp P C y S' Q) Q)) : AWp P C (.seq x y) S Q := by
  intro Φ L a w hc
  refine wp_seq (Code.wp_mono ?_ (h Φ L a w hc))
  rintro e a' w' ⟨x, S', Φ', L', rfl, hx, hc'⟩
  cases x with
  | normal => exact hx Φ' L' a' w' hc'
  | exit id => exact ⟨.exit id, S', Φ', L', rfl, hx, hc'⟩
  | ret => exact ⟨.ret, S', Φ', L', rfl, hx, hc'⟩

def blockQ (id : Nat) (Q : AExit → St → Prop) : AExit → St → Prop
  | .normal, S => Q .normal S
  | .exit i, S => if i = id then Q .normal S else Q (.exit i) S
  | .ret, S => Q .ret S

theorem AWp_block {id : Nat} {c : Code} (h : AWp P C c S (blockQ id Q)) : AWp P C (.block id c) S Q := by
  intro Φ L a w hc
  refine wp_block (Code.wp_mono ?_ (h Φ L a w hc))
  rintro e a' w' ⟨x, S', Φ', L', rfl, hx, hc'⟩
  cases x with
  | normal => exact ⟨.normal, S', Φ', L', rfl, hx, hc'⟩
  | exit i =>
    simp only [AExit.to, Exit.inBlock]
    simp only [blockQ] at hx
    split
    · rename_i h; rw [if_pos h] at hx; exact ⟨.normal, S', Φ', L', rfl, hx, hc'⟩
    · rename_i h; rw [if_neg h] at hx; exact ⟨.exit i, S', Φ', L', rfl, hx, hc'⟩
  | ret => exact ⟨.ret, S', Φ', L', rfl, hx, hc'⟩

theorem AWp_cond {c : Operand} {x y : Code} {b : Bool} (hb : aev S c = .bool b) (ht : b = true → AWp P C x S Q) (hf : b = false → AWp P C y S Q) : AWp P C (.cond c x y) S Q := by
  intro Φ L a w hc
  have h := aev_ok hc c
  rw [hb] at h
  generalize hv : a.eval c = v at h
  cases h
  exact wp_cond_split hv (fun h => ht h Φ L a w hc) (fun h => hf h Φ L a w hc)

theorem AWp_cond_ub {c : Operand} {x y : Code} {p q : Prop} (hb : aev S c = .ub p q) (ht : p → AWp P C x S Q) (hf : q → AWp P C y S Q) : AWp P C (.cond c x y) S Q := by
  intro Φ L a w hc
  have h := aev_ok hc c
  rw [hb] at h
  generalize hv : a.eval c = v at h
  cases h with
  | ub _ _ b h1 h2 => exact wp_cond_split hv (fun h => ht (h1 h) Φ L a w hc) (fun h => hf (h2 h) Φ L a w hc)

/-- A loop, by induction over what is left. -/
theorem AWp_loop {α : Type} (St' : α → St) (μ : α → Nat) (I : α → Prop) {c : Code}
    (round : ∀ x, I x → AWp P C c (St' x) (thenQ (fun S' => ∃ y, I y ∧ μ y < μ x ∧ ∀ Φ L a w, Conc C Φ L S' a w → ∃ Φ' L', Conc C Φ' L' (St' y) a w) Q)) :
    ∀ x, I x → AWp P C (.loop c) (St' x) Q := by
  intro x hx Φ L a w hc b k cs
  have key : ∀ n x Φ L a w, μ x ≤ n → I x → Conc C Φ L (St' x) a w →
      ∃ e a' w', Post C Q e a' w' ∧ Arrives P (lone (b.at a (.code c :: .inLoop c :: k)) cs w) b k cs e a' w' := by
    intro n
    induction n with
    | zero =>
      intro x Φ L a w hn hI hc
      obtain ⟨e, a₁, w₁, ⟨ae, S₁, Φ₁, L₁, rfl, hq, hc₁⟩, harr⟩ := round x hI Φ L a w hc b (.inLoop c :: k) cs
      cases ae with
      | normal => obtain ⟨y, _, hlt, _⟩ := hq; omega
      | exit id => exact ⟨_, a₁, w₁, ⟨.exit id, S₁, Φ₁, L₁, rfl, hq, hc₁⟩, .pass (x := .inLoop c) rfl (fun _ _ => .inl (by simp)) harr⟩
      | ret => exact ⟨_, a₁, w₁, ⟨.ret, S₁, Φ₁, L₁, rfl, hq, hc₁⟩, .pass (x := .inLoop c) rfl (fun _ _ => .inl (by simp)) harr⟩
    | succ n ih =>
      intro x Φ L a w hn hI hc
      obtain ⟨e, a₁, w₁, ⟨ae, S₁, Φ₁, L₁, rfl, hq, hc₁⟩, harr⟩ := round x hI Φ L a w hc b (.inLoop c :: k) cs
      cases ae with
      | normal =>
        obtain ⟨y, hy, hlt, hw⟩ := hq
        obtain ⟨Φ₂, L₂, hc₂⟩ := hw _ _ _ _ hc₁
        obtain ⟨e₂, a₂, w₂, hq₂, harr₂⟩ := ih y Φ₂ L₂ a₁ w₁ (by omega) hy hc₂
        exact ⟨e₂, a₂, w₂, hq₂, .of_steps (Steps.trans harr (.one step_inLoop)) harr₂⟩
      | exit id => exact ⟨_, a₁, w₁, ⟨.exit id, S₁, Φ₁, L₁, rfl, hq, hc₁⟩, .pass (x := .inLoop c) rfl (fun _ _ => .inl (by simp)) harr⟩
      | ret => exact ⟨_, a₁, w₁, ⟨.ret, S₁, Φ₁, L₁, rfl, hq, hc₁⟩, .pass (x := .inLoop c) rfl (fun _ _ => .inl (by simp)) harr⟩
  obtain ⟨e, a', w', hq, harr⟩ := key _ x Φ L a w (Nat.le_refl _) hx hc
  exact ⟨e, a', w', hq, .of_steps (.one step_loop) harr⟩

end
end Go.Proofs.Ythojapklndjidaa
