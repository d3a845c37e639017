/- States forgotten in part, loops, typed contracts. -/
import Derived.Test.YthojapklndjidaaSy15
namespace Go.Proofs.Ythojapklndjidaa
open Go Go.RowKit
set_option linter.unusedVariables false
set_option linter.all false

section
variable {P : Program} {C : Ctx} {Φ : Nat → Option Obj} {L : Locs} {H : List AObj} {w : World} {Γ : Ctrs} {τ : TypeId → Option Ty}

/-! ### To forget, to name anew -/

def isEp : AV → Bool
  | .eptr _ _ _ _ => true
  | _ => false
theorem isEp_ok {c : AV} (h : isEp c = true) : ∃ T xs i o, c = .eptr T xs i o := by
  unfold isEp at h
  split at h
  · exact ⟨_, _, _, _, rfl⟩
  · cases h

def leA (ps : List Nat) (a : AV) : AV → Prop
  | .any => True
  | .osl i n => match ps[i]? with
    | some j => a = .osl j n
    | none => False
  | .ptr i o => match ps[i]? with
    | some j => a = .ptr j o
    | none => False
  | .optr i s k o => match ps[i]? with
    | some j => a = .optr j s k o
    | none => False
  | .omap i => match ps[i]? with
    | some j => a = .omap j
    | none => False
  | .fn f cs => cs.all isEp = true ∧ a = .fn f cs
  | .agg _ => False
  | .tup _ => False
  | .opt _ _ => False
  | b => a = b

def leT (ps : List Nat) : List AV → List AV → Prop
  | [], [] => True
  | a :: as, b :: bs => leA ps a b ∧ leT ps as bs
  | _, _ => False

def leO (ps : List Nat) : AObj → AObj → Prop
  | _, .dead => True
  | .cells t cs, .cells t' cs' => t = t' ∧ leT ps cs cs'
  | .arr T e xs, .arr T' e' xs' => AObj.arr T e xs = .arr T' e' xs'
  | .frz T xs, .frz T' xs' => AObj.frz T xs = .frz T' xs'
  | .map K V xs, .map K' V' xs' => AObj.map K V xs = .map K' V' xs'
  | .deep d e xs, .deep d' e' xs' => AObj.deep d e xs = .deep d' e' xs'
  | _, _ => False

def leH (ps : List Nat) (H : List AObj) : List Nat → List AObj → Prop
  | [], [] => True
  | p :: qs, o :: os => (match H[p]? with
    | some o' => leO ps o' o
    | none => False) ∧ leH ps H qs os
  | _, _ => False

def nodupB : List Nat → Bool
  | [] => true
  | x :: xs => !xs.contains x && nodupB xs

def St.le (ps : List Nat) (S S' : St) : Prop := nodupB ps = true ∧ leT ps S.tmps S'.tmps ∧ leH ps S.heap ps S'.heap

theorem leA_ok {ps : List Nat} {a b : AV} (h : leA ps a b) {v : Value} (hv : CVal Φ L a v) : CVal Φ (ps.map fun j => (L[j]?).getD none) b v := by
  have key : ∀ (i j : Nat) l, ps[i]? = some j → L[j]? = some l → (ps.map fun j => (L[j]?).getD none)[i]? = some l := fun i j l h1 h2 => by
    rw [List.getElem?_map, h1]; simp [h2]
  unfold leA at h
  split at h
  · exact .any _
  · split at h
    · rename_i j hj; subst h
      cases hv with
      | osl _ _ g cap hl h1 h2 => exact .osl _ _ g cap (key _ _ _ hj hl) h1 h2
      | oslnil _ _ hl h1 => exact .oslnil _ _ (key _ _ _ hj hl) h1
    · cases h
  · split at h
    · rename_i j hj; subst h
      cases hv with | ptr _ _ g cap hl => exact .ptr _ _ g cap (key _ _ _ hj hl)
    · cases h
  · split at h
    · rename_i j hj; subst h
      cases hv with | optr _ _ _ _ g cap hl => exact .optr _ _ _ _ g cap (key _ _ _ hj hl)
    · cases h
  · split at h
    · rename_i j hj; subst h
      cases hv with | omap _ g cap hl => exact .omap _ g cap (key _ _ _ hj hl)
    · cases h
  · obtain ⟨hep, h⟩ := h
    subst h
    cases hv with
    | fn _ _ us h1 h2 =>
      refine .fn _ _ us h1 fun i c v hc hu => ?_
      have hx := h2 i c v hc hu
      obtain ⟨T, xs, k, o, rfl⟩ := isEp_ok (List.all_eq_true.1 hep c (List.mem_of_getElem? hc))
      cases hx with
      | eptr _ _ _ _ b o' cap hr hi => exact .eptr _ _ _ _ b o' cap hr hi
  · cases h
  · cases h
  · cases h
  · subst h
    cases hv
    all_goals first
      | exact .bool _
      | exact .int _ _ ‹_›
      | exact .str _ ‹_›
      | exact .sl _ _ _ ‹_›
      | exact .nilsl
      | exact .eptr _ _ _ _ _ _ _ ‹_› ‹_›
      | exact .nilp
      | exact .nilfn
      | exact .nili
      | exact .any _
      | exact .ub _ _ _ ‹_› ‹_›
      | (exfalso; simp_all; done)
      | (exfalso; simp_all; rename_i hx; exact hx _ _ _ _ rfl rfl rfl rfl)

theorem leT_ok {ps : List Nat} : ∀ {as bs : List AV}, leT ps as bs → ∀ (i : Nat) b, bs[i]? = some b → ∃ a, as[i]? = some a ∧ leA ps a b
  | [], [], _, i, b, hb => by simp at hb
  | [], _ :: _, h, i, b, hb => h.elim
  | _ :: _, [], h, i, b, hb => h.elim
  | a :: as, b :: bs, h, 0, b', hb => by simp at hb; subst hb; exact ⟨a, rfl, h.1⟩
  | a :: as, b :: bs, h, i + 1, b', hb => by
    obtain ⟨x, h1, h2⟩ := leT_ok h.2 i b' (by simpa using hb)
    exact ⟨x, by simpa using h1, h2⟩
theorem leT_length {ps : List Nat} : ∀ {as bs : List AV}, leT ps as bs → as.length = bs.length
  | [], [], _ => rfl
  | [], _ :: _, h => h.elim
  | _ :: _, [], h => h.elim
  | a :: as, b :: bs, h => by simp [leT_length h.2]

theorem leH_ok {ps : List Nat} {H : List AObj} : ∀ {qs : List Nat} {os : List AObj}, leH ps H qs os → ∀ (i : Nat) o, os[i]? = some o → ∃ p o', qs[i]? = some p ∧ H[p]? = some o' ∧ leO ps o' o
  | [], [], _, i, o, ho => by simp at ho
  | [], _ :: _, h, i, o, ho => h.elim
  | _ :: _, [], h, i, o, ho => h.elim
  | p :: qs, o :: os, h, 0, o', ho => by
    simp at ho; subst ho
    obtain ⟨h1, _⟩ := h
    split at h1
    · rename_i x hx; exact ⟨p, x, rfl, hx, h1⟩
    · cases h1
  | p :: qs, o :: os, h, i + 1, o', ho => by
    obtain ⟨x, y, h1, h2, h3⟩ := leH_ok h.2 i o' (by simpa using ho)
    exact ⟨x, y, by simpa using h1, h2, h3⟩
theorem leH_length {ps : List Nat} {H : List AObj} : ∀ {qs : List Nat} {os : List AObj}, leH ps H qs os → qs.length = os.length
  | [], [], _ => rfl
  | [], _ :: _, h => h.elim
  | _ :: _, [], h => h.elim
  | p :: qs, o :: os, h => by simp [leH_length h.2]

theorem nodupB_ok : ∀ {xs : List Nat}, nodupB xs = true → ∀ (i j : Nat) x, xs[i]? = some x → xs[j]? = some x → i = j
  | [], _, i, j, x, hi, _ => by simp at hi
  | y :: xs, h, i, j, x, hi, hj => by
    simp only [nodupB, Bool.and_eq_true, Bool.not_eq_true'] at h
    have hn : y ∉ xs := by have := h.1; simpa using this
    cases i with
    | zero =>
      simp at hi; subst hi
      cases j with
      | zero => rfl
      | succ j => exact absurd (List.mem_of_getElem? (by simpa using hj)) hn
    | succ i =>
      cases j with
      | zero => simp at hj; subst hj; exact absurd (List.mem_of_getElem? (by simpa using hi)) hn
      | succ j => have := nodupB_ok h.2 i j x (by simpa using hi) (by simpa using hj); omega

theorem leO_ok {ps : List Nat} {o o' : AObj} (h : leO ps o' o) {l : Option (Nat × Nat)} (hk : ObjOk Φ L w l o') : ObjOk Φ (ps.map fun j => (L[j]?).getD none) w l o := by
  unfold leO at h
  split at h
  · trivial
  · obtain ⟨rfl, h⟩ := h
    obtain ⟨g, cap, vs, rfl, hg, hc⟩ := hk
    refine ⟨g, cap, vs, rfl, hg, by rw [hc.1, leT_length h], fun i c v hci hv => ?_⟩
    obtain ⟨a, ha, hle⟩ := leT_ok h i c hci
    exact ⟨(hc.2 i a v ha hv).1, leA_ok hle (hc.2 i a v ha hv).2⟩
  · cases h; exact hk
  · cases h; exact hk
  · cases h; exact hk
  · cases h; exact hk
  · cases h

theorem leO_dp {ps : List Nat} {o o' : AObj} (h : leO ps o' o) (hlv : o.live = true) {l : Option (Nat × Nat)} {F : List Nat} {L' : Locs} (hd : Dp Φ L w l F o') : Dp Φ L' w l F o := by
  unfold leO at h
  split at h
  · cases hlv
  · exact hd
  · cases h; exact hd
  · cases h; exact hd
  · cases h; exact hd
  · cases h; exact hd
  · cases h

theorem leO_live {ps : List Nat} {o o' : AObj} (h : leO ps o' o) (hl : o.live = true) : o'.live = true := by
  unfold leO at h
  split at h
  · cases hl
  · rfl
  · rfl
  · cases hl
  · cases h; rfl
  · cases h; rfl
  · cases h

theorem Conc.sub {ps : List Nat} {S S' : St} (hpre : ∀ i, i < C.L0.length → ps[i]? = some i) (h : St.le ps S S') {a : Act} (hc : Conc C Φ L S a w) : Conc C Φ (ps.map fun j => (L[j]?).getD none) S' a w := by
  obtain ⟨hn, hT, hH⟩ := h
  have hI := hc.inv
  have hloc : ∀ (i : Nat) o, S'.heap[i]? = some o → ∃ p o' l, ps[i]? = some p ∧ S.heap[p]? = some o' ∧ L[p]? = some l ∧ ObjOk Φ L w l o' ∧ leO ps o' o ∧ (ps.map fun j => (L[j]?).getD none)[i]? = some l := fun i o ho => by
    obtain ⟨p, o', h1, h2, h3⟩ := leH_ok hH i o ho
    obtain ⟨l, hl, hk⟩ := hI.obj p o' h2
    exact ⟨p, o', l, h1, h2, hl, hk, h3, by rw [List.getElem?_map, h1]; simp [hl]⟩
  refine ⟨hc.defers, by rw [hc.size, leT_length hT], fun i c v hci hv => ?_, ?_⟩
  · obtain ⟨x, hx, hle⟩ := leT_ok hT i c hci
    exact leA_ok hle (hc.tmps i x v hx hv)
  · obtain ⟨F, hF⟩ := hI.deep
    refine ⟨?_, Deep.sel (C' := C) hF (fun i => (ps[i]?).getD 0) (fun i o ho hlv => ?_) (fun i j o o' ho ho' e => ?_) fun i o ho hlv b hb => ?_⟩
    rotate_left
    · obtain ⟨p, o', l, h1, h2, h3, h4, h5, h6⟩ := hloc i o ho
      simp only [h1, Option.getD_some]
      exact ⟨o', h2, leO_live h5 hlv, by rw [h6, h3], fun l G hd => leO_dp h5 hlv hd⟩
    · obtain ⟨p, x, l, h1, h2, h3, _, h5, h6⟩ := hloc i o ho
      obtain ⟨q, y, l', h1', h2', h3', _, h5', h6'⟩ := hloc j o' ho'
      simp only [h1, h1', Option.getD_some] at e
      exact nodupB_ok hn i j p h1 (by rw [h1', e])
    · obtain ⟨p, o', l, h1, h2, h3, h4, h5, h6⟩ := hloc i o ho
      simp only [h1, Option.getD_some] at hb
      exact (hF p o' h2 (leO_live h5 hlv)).old b hb
    constructor
    · rw [List.length_map, leH_length hH]
    · exact hI.frz
    · exact hI.base
    · exact hI.glob
    · exact hI.fresh
    · exact hI.os
    · exact hI.tape
    · exact hI.output
    · exact hI.size
    · exact hI.keep
    · intro i o ho
      obtain ⟨p, o', l, _, _, _, h4, h5, h6⟩ := hloc i o ho
      exact ⟨l, h6, leO_ok h5 h4⟩
    · intro i o g cap ho hlv hlg
      obtain ⟨p, o', l, _, h2, h3, _, h5, h6⟩ := hloc i o ho
      rw [h6] at hlg; simp only [Option.some.injEq] at hlg; subst hlg
      exact hI.own p o' g cap h2 (leO_live h5 hlv) h3
    · intro i j o o' g cap cap' hne ho hlv ho' hlv' e1 e2
      obtain ⟨p, x, l, h1, h2, h3, _, h5, h6⟩ := hloc i o ho
      obtain ⟨q, y, l', h1', h2', h3', _, h5', h6'⟩ := hloc j o' ho'
      rw [h6] at e1; simp only [Option.some.injEq] at e1; subst e1
      rw [h6'] at e2; simp only [Option.some.injEq] at e2; subst e2
      exact hI.inj p q x y g cap cap' (fun e => hne (nodupB_ok hn i j p h1 (by rw [h1', e]))) h2 (leO_live h5 hlv) h2' (leO_live h5' hlv') h3 h3'
    · intro i x hx
      have hlt : i < C.L0.length := (List.getElem?_eq_some_iff.1 hx).1
      rw [List.getElem?_map, hpre i hlt]; simp [hI.pre i x hx]

theorem AWp_sub {c : Code} {S S' : St} {Q : AExit → St → Prop} (ps : List Nat) (hpre : ∀ i, i < C.L0.length → ps[i]? = some i) (h : St.le ps S S') (hw : AWp P C c S' Q) : AWp P C c S Q :=
  fun Φ L a w hc => hw _ _ a w (hc.sub hpre h)

/-- A loop: the state at its head by a letter, what is left as a number. -/
theorem AWp_loop_ind {α : Type} (hΓ : CtrsOk P Γ) (hm : P.follows .mixedOrders = true) (τ : TypeId → Option Ty) {c : Code} {S : St} {Q : AExit → St → Prop} (St' : α → St) (μ : α → Nat) (I : α → Prop) (x0 : α) (ps0 : List Nat) (h0 : (∀ i, i < C.L0.length → ps0[i]? = some i) ∧ St.le ps0 S (St' x0)) (hI0 : I x0)
    (round : ∀ x, I x → ACode P C Γ τ c (St' x) (thenQ (fun S' => ∃ y ps, I y ∧ μ y < μ x ∧ (∀ i, i < C.L0.length → ps[i]? = some i) ∧ St.le ps S' (St' y)) Q)) : AWp P C (.loop c) S Q := by
  refine AWp_sub ps0 h0.1 h0.2 (AWp_loop St' μ I (fun x hx => ?_) x0 hI0)
  refine (ACode_ok hΓ hm _ _ _ (round x hx)).mono fun e S' hq => ?_
  cases e with
  | normal =>
    obtain ⟨y, ps, h1, h2, h4, h3⟩ := hq
    exact ⟨y, h1, h2, fun Φ L a w hc => ⟨_, _, hc.sub h4 h3⟩⟩
  | exit i => exact hq
  | ret => exact hq

/-- A piece of code, then what is left of its state, then the rest. -/
theorem AWp_cut (hΓ : CtrsOk P Γ) (hm : P.follows .mixedOrders = true) (τ : TypeId → Option Ty) {x y : Code} {S : St} {Q : AExit → St → Prop} (S1 : St) (F : Prop) (ps : List Nat) (hpre : ∀ i, i < C.L0.length → ps[i]? = some i)
    (h1 : ACode P C Γ τ x S (thenQ (fun S' => F ∧ St.le ps S' S1) Q)) (h2 : F → AWp P C y S1 Q) : AWp P C (.seq x y) S Q := by
  refine AWp_seq ((ACode_ok hΓ hm _ _ _ h1).mono fun e S' hq => ?_)
  cases e with
  | normal => exact AWp_sub ps hpre hq.2 (h2 hq.1)
  | exit i => exact hq
  | ret => exact hq

/-- A piece of code, then one of several states, with what is known of it, then the rest. -/
theorem AWp_cutE {α : Type} {P : Program} {C : Ctx} {Γ : Ctrs} (hΓ : CtrsOk P Γ) (hm : P.follows .mixedOrders = true) (τ : TypeId → Option Ty) {x y : Code} {S : St} {Q : AExit → St → Prop} (S1 : α → St) (F : α → Prop)
    (h1 : ACode P C Γ τ x S (thenQ (fun S' => ∃ z ps, F z ∧ (∀ i, i < C.L0.length → ps[i]? = some i) ∧ St.le ps S' (S1 z)) Q)) (h2 : ∀ z, F z → AWp P C y (S1 z) Q) : AWp P C (.seq x y) S Q := by
  refine AWp_seq ((ACode_ok hΓ hm _ _ _ h1).mono fun e S' hq => ?_)
  cases e with
  | normal =>
    obtain ⟨z, ps, h1, h2', h3⟩ := hq
    exact AWp_sub ps h2' h3 (h2 z h1)
  | exit i => exact hq
  | ret => exact hq
/-- A slice that is nil, as an array of the call's own that holds nothing. -/
theorem AWp_nil {c : Code} {S : St} {Q : AExit → St → Prop} (d : Nat) (T : Ty) (e : TypeId) (hd : S.tmps[d]? = some .nilsl) (h : AWp P C c ⟨S.tmps.set d (.osl S.heap.length 0), S.heap ++ [.arr T e []]⟩ Q) : AWp P C c S Q := by
  intro Φ L a w hc
  refine h Φ (L ++ [none]) a w ⟨hc.defers, by simp [hc.size], fun i c v hci hv => ?_, ?_⟩
  · have hL : ∀ (i : Nat) x, L[i]? = some x → (L ++ [none])[i]? = some x := fun i x hx => by rw [List.getElem?_append_left (List.getElem?_eq_some_iff.1 hx).1]; exact hx
    have hci : (S.tmps.set d (.osl S.heap.length 0))[i]? = some c := hci
    by_cases hid : d = i
    · subst hid
      rw [List.getElem?_set_self (List.getElem?_eq_some_iff.1 hd).1] at hci
      simp only [Option.some.injEq] at hci; subst hci
      have := hc.tmps d _ v hd hv
      cases this
      exact .oslnil _ _ (by rw [← hc.inv.len]; simp) rfl
    · rw [List.getElem?_set_ne hid] at hci
      exact (hc.tmps i c v hci hv).mono (More.refl _) hL
  · exact ⟨hc.inv.toInv0.new (l := none) (o := .arr T e []) ⟨[], World.ownsRow_nil w 0 e T.size, rfl⟩ (fun g cap he => by cases he), Deep.new hc.inv (Below.refl _ _) rfl fun g cap he => by cases he⟩

/-! ### Typed contracts -/

abbrev ArgT := List (Bool × Ty)
@[reducible] def ArgD : ArgT → Type
  | [] => Unit
  | p :: r => p.2.D × ArgD r

def isWord : AV → Bool
  | .bool _ => true
  | .int _ _ => true
  | .str _ => true
  | .sl _ _ => true
  | .nilsl => true
  | _ => false

def decA (agg : Bool) (T : Ty) (a : AV) : Option T.D :=
  if agg then match a with
    | .agg cs => unflat1 T cs
    | _ => none
  else if isWord a then unflat1 T [a] else none

def encA (agg : Bool) (T : Ty) (x : T.D) : AV := if agg then .agg (flat T x) else (flat T x).headD .any

def decAs : (As : ArgT) → List AV → Option (ArgD As)
  | [], [] => some ()
  | p :: r, a :: as => match decA p.1 p.2 a with
    | some x => match decAs r as with
      | some y => some (x, y)
      | none => none
    | none => none
  | _, _ => none

def encAs : (As : ArgT) → ArgD As → List AV
  | [], _ => []
  | p :: r, x => encA p.1 p.2 x.1 :: encAs r x.2

structure Spec (As : ArgT) where
  pre : ArgD As → Prop
  res : ArgD As → Nat → AV
  objs : ArgD As → List AObj

/-! A contract for arguments of which some are functions with boxes of data, or point at a datum. -/
inductive RA where
  | val (agg : Bool) (T : Ty)
  | ptr (T : Ty)
  | fn (g : FuncId) (Ts : List Ty)
@[reducible] def CapD : List Ty → Type
  | [] => Unit
  | T :: r => T.D × CapD r
@[reducible] def RA.D : RA → Type
  | .val _ T => T.D
  | .ptr T => T.D
  | .fn _ Ts => CapD Ts
@[reducible] def RD : List RA → Type
  | [] => Unit
  | a :: r => a.D × RD r
def one1 {α : Type} : List α → Option α
  | [x] => some x
  | _ => none
def decE (T : Ty) : AV → Option T.D
  | .eptr U xs i o => if h : U = T then (if i = 0 ∧ o = 0 then one1 (castL h xs) else none) else none
  | _ => none
def encE (T : Ty) (x : T.D) : AV := .eptr T [x] 0 0
def decCs : (Ts : List Ty) → List AV → Option (CapD Ts)
  | [], [] => some ()
  | T :: r, c :: cs => match decE T c with
    | some x => match decCs r cs with
      | some y => some (x, y)
      | none => none
    | none => none
  | _, _ => none
def encCs : (Ts : List Ty) → CapD Ts → List AV
  | [], _ => []
  | T :: r, x => encE T x.1 :: encCs r x.2
def decR : (a : RA) → AV → Option a.D
  | .val g T, a => decA g T a
  | .ptr T, a => decE T a
  | .fn g Ts, a => match a with
    | .fn h cs => if h = g then decCs Ts cs else none
    | _ => none
def encR : (a : RA) → a.D → AV
  | .val g T, x => encA g T x
  | .ptr T, x => encE T x
  | .fn g Ts, x => .fn g (encCs Ts x)
def decRs : (As : List RA) → List AV → Option (RD As)
  | [], [] => some ()
  | p :: r, a :: as => match decR p a with
    | some x => match decRs r as with
      | some y => some (x, y)
      | none => none
    | none => none
  | _, _ => none
def encRs : (As : List RA) → RD As → List AV
  | [], _ => []
  | p :: r, x => encR p x.1 :: encRs r x.2
structure RSpec (As : List RA) where
  pre : RD As → Prop
  res : RD As → Nat → AV
  objs : RD As → List AObj
def RSpecOk (P : Program) (f : FuncId) {As : List RA} (s : RSpec As) : Prop := ∀ x n, s.pre x → FnOk P f (encRs As x) n (s.res x n) (s.objs x)
def ctrR {As : List RA} (s : RSpec As) (args : List AV) (n : Nat) : Option CR := match decRs As args with
  | some x => some ⟨s.pre x, s.res x n, s.objs x⟩
  | none => none
theorem decE_ok {T : Ty} {c : AV} {x : T.D} (h : decE T c = some x) : c = encE T x := by
  unfold decE at h
  split at h
  · rename_i U xs i o
    split at h
    · rename_i hU
      subst hU
      split at h
      · rename_i hio
        obtain ⟨rfl, rfl⟩ := hio
        have e : castL rfl xs = xs := rfl
        rw [e] at h
        unfold one1 at h
        split at h
        · simp only [Option.some.injEq] at h; subst h; rfl
        · cases h
      · cases h
    · cases h
  · cases h
theorem decCs_ok : ∀ {Ts : List Ty} {cs : List AV} {x : CapD Ts}, decCs Ts cs = some x → cs = encCs Ts x
  | [], [], _, _ => rfl
  | [], _ :: _, _, h => by simp [decCs] at h
  | _ :: _, [], _, h => by simp [decCs] at h
  | T :: r, c :: cs, x, h => by
    simp only [decCs] at h
    split at h
    · rename_i y h1
      split at h
      · rename_i z h2
        simp only [Option.some.injEq] at h; subst h
        rw [decE_ok h1, decCs_ok h2]; rfl
      · cases h
    · cases h
def okRs : List RA → Bool
  | [] => true
  | .val g T :: r => (g || T.size == 1) && okRs r
  | _ :: r => okRs r

def FSpecOk (P : Program) (f : FuncId) {As : ArgT} (s : Spec As) : Prop := ∀ x n, s.pre x → FnOk P f (encAs As x) n (s.res x n) (s.objs x)

def ctr1 {As : ArgT} (s : Spec As) (args : List AV) (n : Nat) : Option CR := match decAs As args with
  | some x => some ⟨s.pre x, s.res x n, s.objs x⟩
  | none => none

def addC (f : FuncId) (c : List AV → Nat → Option CR) (Γ : Ctrs) : Ctrs := ⟨fun g args n => if g = f then c args n else Γ.q g args n, Γ.h, Γ.pl, Γ.dt, Γ.z, Γ.x, Γ.y⟩
def addH (f : FuncId) (m : List Bool × (List AV → List AObj → Option HR)) (Γ : Ctrs) : Ctrs := ⟨Γ.q, fun g => if g = f then some m else Γ.h g, Γ.pl, Γ.dt, Γ.z, Γ.x, Γ.y⟩
/-- A contract for regions that draw their order alone. -/
def addZ (f : FuncId) (m : List Bool × (List AV → List AObj → Option HR)) (Γ : Ctrs) : Ctrs := ⟨Γ.q, Γ.h, Γ.pl, Γ.dt, fun g => if g = f then some m else Γ.z g, Γ.x, Γ.y⟩
def addP (id : Nat) (p : Plan) (Γ : Ctrs) : Ctrs := ⟨Γ.q, Γ.h, fun k => if k = id then some ([], p) else Γ.pl k, Γ.dt, Γ.z, Γ.x, Γ.y⟩
theorem CtrsOk.addP {id : Nat} {p : Plan} (hΓ : CtrsOk P Γ) : CtrsOk P (addP id p Γ) := hΓ
def addPX (id : Nat) (X : List Nat) (p : Plan) (Γ : Ctrs) : Ctrs := ⟨Γ.q, Γ.h, fun k => if k = id then some (X, p) else Γ.pl k, Γ.dt, Γ.z, Γ.x, Γ.y⟩
theorem CtrsOk.addPX {id : Nat} {X : List Nat} {p : Plan} (hΓ : CtrsOk P Γ) : CtrsOk P (addPX id X p Γ) := hΓ
/-- Slices of these elements are made to own what the elements hold. -/
def addD (t : TypeId) (d : DT) (Γ : Ctrs) : Ctrs := ⟨Γ.q, Γ.h, Γ.pl, fun k => if k = t then some d else Γ.dt k, Γ.z, Γ.x, Γ.y⟩
theorem CtrsOk.addD {t : TypeId} {d : DT} (hΓ : CtrsOk P Γ) : CtrsOk P (addD t d Γ) := hΓ
def noC : Ctrs := ⟨fun _ _ _ => none, fun _ => none, fun _ => none, fun _ => none, fun _ => none, fun _ => none, fun _ => none⟩
theorem noC_ok : CtrsOk P noC := ⟨(fun f args n r h => by cases h), (fun f ms K h => by cases h), (fun f ms K h => by cases h), (fun f ms K h => by cases h), (fun f ms K h => by cases h)⟩

theorem decA_ok {agg : Bool} {T : Ty} {a : AV} {x : T.D} (h : decA agg T a = some x) (hs : agg = false → T.size = 1) {v : Value} (hv : CVal Φ L a v) : CVal Φ L (encA agg T x) v := by
  unfold decA at h
  cases agg with
  | true =>
    simp only [if_true] at h
    split at h
    · rename_i cs
      cases hv with
      | agg _ vs h1 h2 h3 =>
        have hr := unflat1_ok h (CVals.of_agg (.agg _ _ h1 h2 h3))
        have := packV_ok (CVals.of_rep (L := L) hr)
        simpa [encA] using this
    · cases h
  | false =>
    simp only [Bool.false_eq_true, if_false] at h
    split at h
    case isFalse => cases h
    rename_i hw
    have hone : v.oneCell' = true := by
      cases hv <;> first | (cases hw; done) | rfl | skip
      · rename_i T' xs hr
        obtain ⟨A, cap, he, _⟩ := hr
        simp only [List.cons.injEq, and_true] at he
        subst he; rfl
    have hr := unflat1_ok h (CVals.cons hone hv .nil)
    have hcv := CVals.of_rep (L := L) hr
    unfold encA
    simp only [Bool.false_eq_true, if_false]
    cases hfl : flat T x with
    | nil => rw [hfl] at hcv; simp [CVals] at hcv
    | cons c cs =>
      rw [hfl] at hcv
      obtain ⟨v', ws, he, _, h2, _⟩ := hcv.inv_cons
      simp only [List.cons.injEq] at he
      rw [he.1]; exact h2

def okAs : ArgT → Bool
  | [] => true
  | p :: r => (p.1 || p.2.size == 1) && okAs r

theorem decAs_ok : ∀ {As : ArgT} {as : List AV} {x : ArgD As}, okAs As = true → decAs As as = some x → ∀ {vs : List Value}, vs.length = as.length → (∀ (i : Nat) c v, as[i]? = some c → vs[i]? = some v → CVal Φ L c v) →
    vs.length = (encAs As x).length ∧ ∀ (i : Nat) c v, (encAs As x)[i]? = some c → vs[i]? = some v → CVal Φ L c v
  | [], [], x, _, h, vs, hl, hv => ⟨by simpa [encAs] using hl, fun i c v hc => by simp [encAs] at hc⟩
  | [], _ :: _, x, _, h, vs, hl, hv => by simp [decAs] at h
  | _ :: _, [], x, _, h, vs, hl, hv => by simp [decAs] at h
  | p :: r, a :: as, x, hok, h, [], hl, hv => by simp at hl
  | p :: r, a :: as, x, hok, h, v :: vs, hl, hv => by
    simp only [okAs, Bool.and_eq_true, Bool.or_eq_true, beq_iff_eq] at hok
    simp only [decAs] at h
    split at h
    · rename_i y h1
      split at h
      · rename_i z h2
        simp only [Option.some.injEq] at h; subst h
        obtain ⟨e1, e2⟩ := decAs_ok hok.2 h2 (vs := vs) (by simpa using hl) fun i c v hc hv' => hv (i + 1) c v (by simpa using hc) (by simpa using hv')
        refine ⟨by simp [encAs, e1], fun i c u hc hu => ?_⟩
        cases i with
        | zero =>
          simp [encAs] at hc hu; subst hc; subst hu
          exact decA_ok h1 (fun e => hok.1.resolve_left (by rw [e]; simp)) (hv 0 a v rfl rfl)
        | succ i => exact e2 i c u (by simpa [encAs] using hc) (by simpa using hu)
      · cases h
    · cases h

theorem decRs_ok : ∀ {As : List RA} {as : List AV} {x : RD As}, okRs As = true → decRs As as = some x → ∀ {vs : List Value}, vs.length = as.length → (∀ (i : Nat) c v, as[i]? = some c → vs[i]? = some v → CVal Φ L c v) →
    vs.length = (encRs As x).length ∧ ∀ (i : Nat) c v, (encRs As x)[i]? = some c → vs[i]? = some v → CVal Φ L c v
  | [], [], x, _, h, vs, hl, hv => ⟨by simpa [encRs] using hl, fun i c v hc => by simp [encRs] at hc⟩
  | [], _ :: _, x, _, h, vs, hl, hv => by simp [decRs] at h
  | _ :: _, [], x, _, h, vs, hl, hv => by simp [decRs] at h
  | p :: r, a :: as, x, hok, h, [], hl, hv => by simp at hl
  | p :: r, a :: as, x, hok, h, v :: vs, hl, hv => by
    simp only [decRs] at h
    split at h
    · rename_i y h1
      split at h
      · rename_i z h2
        simp only [Option.some.injEq] at h; subst h
        have hr : okRs r = true := by cases p <;> simp [okRs] at hok <;> first | exact hok.2 | exact hok
        obtain ⟨e1, e2⟩ := decRs_ok hr h2 (vs := vs) (by simpa using hl) fun i c v hc hv' => hv (i + 1) c v (by simpa using hc) (by simpa using hv')
        refine ⟨by simp [encRs, e1], fun i c u hc hu => ?_⟩
        cases i with
        | zero =>
          simp [encRs] at hc hu; subst hc; subst hu
          have hav := hv 0 a v rfl rfl
          cases p with
          | val g T =>
            simp only [okRs, Bool.and_eq_true, Bool.or_eq_true, beq_iff_eq] at hok
            exact decA_ok h1 (fun e => hok.1.resolve_left (by rw [e]; simp)) hav
          | ptr T => rw [decE_ok h1] at hav; exact hav
          | fn g Ts =>
            simp only [decR] at h1
            split at h1
            · rename_i k cs
              split at h1
              · rename_i hg
                subst hg
                rw [decCs_ok h1] at hav; exact hav
              · cases h1
            · cases h1
        | succ i => exact e2 i c u (by simpa [encRs] using hc) (by simpa using hu)
      · cases h
    · cases h

theorem CtrOk.addR {f : FuncId} {As : List RA} {s : RSpec As} (h : RSpecOk P f s) (hok : okRs As = true) (hΓ : CtrsOk P Γ) : CtrsOk P (addC f (ctrR s) Γ) := by
  refine ⟨?_, hΓ.2⟩
  intro g args n r hr hp
  simp only [addC] at hr
  split at hr
  · rename_i hg; subst hg
    unfold ctrR at hr
    split at hr
    · rename_i x hx
      simp only [Option.some.injEq] at hr; subst hr
      intro w Φ L vs hL hΦ hgl hsz hv
      obtain ⟨e1, e2⟩ := decRs_ok (Φ := Φ) (L := []) hok hx (vs := vs.toList) (by simpa using hsz) (fun i c v hc hv' => hv i c v hc (by simpa using hv'))
      exact h x n hp w Φ L vs hL hΦ hgl (by simpa using e1) fun i c v hc hv' => e2 i c v hc (by simpa using hv')
    · cases hr
  · exact hΓ.1 g args n r hr hp
theorem CtrOk.add {f : FuncId} {As : ArgT} {s : Spec As} (h : FSpecOk P f s) (hok : okAs As = true) (hΓ : CtrsOk P Γ) : CtrsOk P (addC f (ctr1 s) Γ) := by
  refine ⟨?_, hΓ.2⟩
  intro g args n r hr hp
  simp only [addC] at hr
  split at hr
  · rename_i hg; subst hg
    unfold ctr1 at hr
    split at hr
    · rename_i x hx
      simp only [Option.some.injEq] at hr; subst hr
      intro w Φ L vs hL hΦ hgl hsz hv
      obtain ⟨e1, e2⟩ := decAs_ok (Φ := Φ) (L := []) hok hx (vs := vs.toList) (by simpa using hsz) (fun i c v hc hv' => hv i c v hc (by simpa using hv'))
      exact h x n hp w Φ L vs hL hΦ hgl (by simpa using e1) fun i c v hc hv' => e2 i c v hc (by simpa using hv')
    · cases hr
  · exact hΓ.1 g args n r hr hp

/-! ### Typed contracts of calls that write what they are handed -/

inductive HA where
  | val (agg : Bool) (T : Ty)
  | ref (t : TypeId) (T : Ty)
  | arr (e : TypeId) (T : Ty)
  | own (agg : Bool) (d : DT)

@[reducible] def HA.D : HA → Type
  | .val _ T => T.D
  | .ref _ T => T.D
  | .arr _ T => List T.D
  | .own _ d => d.ty.D
@[reducible] def HD : List HA → Type
  | [] => Unit
  | a :: r => a.D × HD r

/-- Argument 'a', and the object that it leads to; 'k' names are taken ahead of it. -/
def encHs : Nat → (As : List HA) → HD As → List AV
  | _, [], _ => []
  | k, .val g T :: r, x => encA g T x.1 :: encHs k r x.2
  | k, .ref t T :: r, x => .ptr k 0 :: encHs (k + 1) r x.2
  | k, .arr e T :: r, x => .osl k x.1.length :: encHs (k + 1) r x.2
  | k, .own g d :: r, x => (if g then .agg (openW d x.1 k).1 else (openW d x.1 k).1.headD .any) :: encHs (k + (openW d x.1 k).2.length) r x.2
def encOs : (As : List HA) → HD As → List AObj
  | [], _ => []
  | .val g T :: r, x => encOs r x.2
  | .ref t T :: r, x => .cells t (flat T x.1) :: encOs r x.2
  | .arr e T :: r, x => .arr T e x.1 :: encOs r x.2
  | .own g d :: r, x => (openW d x.1 0).2 ++ encOs r x.2

def decRef (k : Nat) (t : TypeId) (T : Ty) : AV → AObj → Option T.D
  | .ptr k' 0, .cells t' cs => if k' = k ∧ t' = t then unflat1 T cs else none
  | _, _ => none
def decArr (k : Nat) (e : TypeId) (T : Ty) : AV → AObj → Option (List T.D)
  | .osl k' n, .arr T' e' xs => if h : T' = T then if k' = k ∧ e' = e then some (castL h xs) else none else none
  | _, _ => none
/-- The slice that a name leads to, of its elements' type. -/
def decSl (e : TypeId) : (d : DT) → AObj → Option (List d.ty.D)
  | .leaf T, .arr T' e' xs => if h : T' = T then if e' = e then some (castL h xs) else none else none
  | .pair a b, .deep d e' xs => if h : d = .pair a b then if e' = e then some (castD h xs) else none else none
  | .sl e1 d1, .deep d e' xs => if h : d = .sl e1 d1 then if e' = e then some (castD h xs) else none else none
  | _, _ => none
def decOwn : Nat → (d : DT) → List AV → List AObj → Option (d.ty.D × List AV × List AObj)
  | _, .leaf T, ws, os => match unflat T ws with
    | some (x, r) => some (x, r, os)
    | none => none
  | k, .pair a b, ws, os => match decOwn k a ws os with
    | some (x, r, os1) => match decOwn (k + (openW a x 0).2.length) b r os1 with
      | some (y, r', os2) => some ((x, y), r', os2)
      | none => none
    | none => none
  | k, .sl e d, .osl k' _ :: r, o :: os => if k' = k then match decSl e d o with
    | some xs => some (xs, r, os)
    | none => none
    else none
  | _, .sl _ _, _, _ => none
def slN : DT → Nat
  | .leaf _ => 0
  | .pair a b => slN a + slN b
  | .sl _ _ => 1
theorem openW_len : ∀ (d : DT) (x : d.ty.D) (k : Nat), (openW d x k).2.length = slN d
  | .leaf T, x, k => rfl
  | .pair a b, x, k => by simp only [openW, List.length_append, openW_len a, openW_len b]; rfl
  | .sl e d, x, k => rfl
theorem openW_objs : ∀ (d : DT) (x : d.ty.D) (k k' : Nat), (openW d x k).2 = (openW d x k').2
  | .leaf T, x, k, k' => rfl
  | .pair a b, x, k, k' => by simp only [openW]; rw [openW_objs a x.1 k k', openW_objs b x.2 _ (k' + (openW a x.1 k').2.length)]
  | .sl e d, x, k, k' => rfl
def lenO : AObj → Nat → Prop
  | .arr _ _ xs, n => n = xs.length
  | .deep _ _ xs, n => n = xs.length
  | _, _ => True
/-- Each slice is handed over whole. -/
def oslN : AV → Option Nat
  | .osl _ n => some n
  | _ => none
def wholeW : List AV → List AObj → Prop
  | [], _ => True
  | c :: ws, os => match oslN c, os with
    | some n, o :: os' => lenO o n ∧ wholeW ws os'
    | _, _ => wholeW ws os
def wholeA : AV → AObj → Prop
  | .osl _ n, .arr _ _ xs => n = xs.length
  | _, _ => True

def decHs : Nat → (As : List HA) → List AV → List AObj → Option (HD As)
  | _, [], [], [] => some ()
  | k, .val g T :: r, a :: as, os => match decA g T a with
    | some x => match decHs k r as os with
      | some y => some (x, y)
      | none => none
    | none => none
  | k, .ref t T :: r, a :: as, o :: os => match decRef k t T a o with
    | some x => match decHs (k + 1) r as os with
      | some y => some (x, y)
      | none => none
    | none => none
  | k, .arr e T :: r, a :: as, o :: os => match decArr k e T a o with
    | some x => match decHs (k + 1) r as os with
      | some y => some (x, y)
      | none => none
    | none => none
  | k, .own g d :: r, a :: as, os => match (if g then match a with | .agg cs => decOwn k d cs os | _ => none else decOwn k d [a] os) with
    | some (x, [], os1) => match decHs (k + (openW d x 0).2.length) r as os1 with
      | some y => some (x, y)
      | none => none
    | _ => none
  | _, _, _, _ => none

/-- Each array is handed over whole. -/
def wholeHs : (As : List HA) → List AV → List AObj → Prop
  | .val _ _ :: r, _ :: as, os => wholeHs r as os
  | .ref _ _ :: r, _ :: as, _ :: os => wholeHs r as os
  | .arr _ _ :: r, a :: as, o :: os => wholeA a o ∧ wholeHs r as os
  | .own g d :: r, a :: as, os => wholeW (if g then cellsA a else [a]) os ∧ wholeHs r as (os.drop (slN d))
  | _, _, _ => True

structure HSpec (As : List HA) where
  pre : HD As → Prop
  res : HD As → AV
  heap : HD As → List AObj

def HSpecOk (P : Program) (f : FuncId) {As : List HA} (s : HSpec As) : Prop := ∀ x, s.pre x → HOk P f (encHs 0 As x) (encOs As x) (s.res x) (s.heap x)

def ctrH {As : List HA} (s : HSpec As) (args : List AV) (H0 : List AObj) : Option HR := match decHs 0 As args H0 with
  | some x => some ⟨wholeHs As args H0 ∧ s.pre x, s.res x, s.heap x⟩
  | none => none

def isSl : DT → Bool
  | .sl _ _ => true
  | _ => false
def okHs : List HA → Bool
  | [] => true
  | .val g T :: r => (g || T.size == 1) && okHs r
  | .own g d :: r => (g || isSl d) && okHs r
  | _ :: r => okHs r

/-- A contract whose answer is known only to exist, typed. -/
structure XSpec (As : List HA) where
  pre : HD As → Prop
  all : HD As → (AV → List AObj → Prop) → Prop
def XSpecOk (P : Program) (f : FuncId) {As : List HA} (s : XSpec As) : Prop := ∀ x, s.pre x → XOk P f (encHs 0 As x) (encOs As x) (s.all x)
def ctrX {As : List HA} (s : XSpec As) (args : List AV) (H0 : List AObj) : Option XR := match decHs 0 As args H0 with
  | some x => some ⟨wholeHs As args H0 ∧ s.pre x, s.all x⟩
  | none => none
def addX (f : FuncId) (m : List Bool × (List AV → List AObj → Option XR)) (Γ : Ctrs) : Ctrs := ⟨Γ.q, Γ.h, Γ.pl, Γ.dt, Γ.z, fun g => if g = f then some m else Γ.x g, Γ.y⟩

theorem decSl_ok {e : TypeId} {d : DT} {o : AObj} {xs : List d.ty.D} (h : decSl e d o = some xs) : o = objOf e d xs := by
  unfold decSl at h
  split at h
  · split at h
    · rename_i hT; subst hT
      split at h
      · rename_i he; subst he
        simp only [castL_rfl, Option.some.injEq] at h; subst h; rfl
      · cases h
    · cases h
  · split at h
    · rename_i hd; subst hd
      split at h
      · rename_i he; subst he
        simp only [castD_rfl, Option.some.injEq] at h; subst h; rfl
      · cases h
    · cases h
  · split at h
    · rename_i hd; subst hd
      split at h
      · rename_i he; subst he
        simp only [castD_rfl, Option.some.injEq] at h; subst h; rfl
      · cases h
    · cases h
  · cases h

theorem lenO_objOf {e : TypeId} {d : DT} {xs : List d.ty.D} {n : Nat} (h : lenO (objOf e d xs) n) : n = xs.length := by
  cases d <;> exact h

/-- Words of a leaf name no slice: what is whole behind them was whole. -/
theorem decOwn_ok : ∀ {d : DT} {k : Nat} {ws r : List AV} {os os' : List AObj} {x : d.ty.D}, decOwn k d ws os = some (x, r, os') → (∀ vs, CVals Φ L ws vs → wholeW ws os → ∃ v1 v2, vs = v1 ++ v2 ∧ CVals Φ L (openW d x k).1 v1 ∧ CVals Φ L r v2) ∧ (wholeW ws os → wholeW r os') ∧ os = (openW d x 0).2 ++ os'
  | .leaf T, k, ws, r, os, os', x, h => by
    simp only [decOwn] at h
    split at h
    · rename_i y r' hu
      simp only [Option.some.injEq, Prod.mk.injEq] at h
      obtain ⟨rfl, rfl, rfl⟩ := h
      refine ⟨fun vs hv _ => ?_, fun hw => ?_, rfl⟩
      · obtain ⟨v1, v2, rfl, h1, h2⟩ := unflat_ok hu hv
        exact ⟨v1, v2, rfl, CVals.of_rep h1, h2⟩
      · have key : ∀ {T : Ty} {ws r : List AV} {x : T.D}, unflat T ws = some (x, r) → wholeW ws os → wholeW r os := by
          intro T
          induction T with
          | int k => intro ws r x h hw; cases ws with
            | nil => simp [unflat] at h
            | cons c cs => cases c <;> simp [unflat] at h; obtain ⟨_, _, rfl⟩ := h; exact hw
          | byte => intro ws r x h hw; cases ws with
            | nil => simp [unflat] at h
            | cons c cs =>
              simp only [unflat] at h
              split at h
              · simp only [Option.some.injEq, Prod.mk.injEq] at h; obtain ⟨_, rfl⟩ := h; exact hw
              · cases h
          | bool => intro ws r x h hw; cases ws with
            | nil => simp [unflat] at h
            | cons c cs => cases c <;> simp [unflat] at h; obtain ⟨_, rfl⟩ := h; exact hw
          | str => intro ws r x h hw; cases ws with
            | nil => simp [unflat] at h
            | cons c cs => cases c <;> simp [unflat] at h; obtain ⟨_, rfl⟩ := h; exact hw
          | unit => intro ws r x h hw; simp [unflat] at h; obtain ⟨_, rfl⟩ := h; exact hw
          | pair a b iha ihb =>
            intro ws r x h hw
            simp only [unflat] at h
            split at h
            · rename_i x1 r1 h1
              split at h
              · rename_i y r2 h2
                simp only [Option.some.injEq, Prod.mk.injEq] at h
                obtain ⟨_, rfl⟩ := h
                exact ihb h2 (iha h1 hw)
              · cases h
            · cases h
          | sl e ih => intro ws r x h hw; cases ws with
            | nil => simp [unflat] at h
            | cons c cs =>
              simp only [unflat] at h
              split at h
              · split at h
                · simp only [Option.some.injEq, Prod.mk.injEq] at h; obtain ⟨_, rfl⟩ := h; exact hw
                · cases h
              · simp only [Option.some.injEq, Prod.mk.injEq] at h; obtain ⟨_, rfl⟩ := h; exact hw
              · cases h
        exact key hu hw
    · cases h
  | .pair a b, k, ws, r, os, os', x, h => by
    simp only [decOwn] at h
    split at h
    · rename_i y1 r1 os1 h1
      split at h
      · rename_i y2 r2 os2 h2
        simp only [Option.some.injEq, Prod.mk.injEq] at h
        obtain ⟨rfl, rfl, rfl⟩ := h
        obtain ⟨a1, a2, a3⟩ := decOwn_ok h1
        obtain ⟨b1, b2, b3⟩ := decOwn_ok h2
        refine ⟨fun vs hv hw => ?_, fun hw => b2 (a2 hw), ?_⟩
        · obtain ⟨v1, v2, rfl, c1, c2⟩ := a1 vs hv hw
          obtain ⟨v3, v4, rfl, c3, c4⟩ := b1 v2 c2 (a2 hw)
          refine ⟨v1 ++ v3, v4, by simp, ?_, c4⟩
          simp only [openW]
          rw [openW_len a y1 k, ← openW_len a y1 0]
          exact c1.append c3
        · simp only [openW]
          rw [a3, b3, openW_objs b y2 (0 + (openW a y1 0).2.length) 0, List.append_assoc]
      · cases h
    · cases h
  | .sl e d, k, [], r, os, os', x, h => by simp [decOwn] at h
  | .sl e d, k, c :: ws, r, [], os', x, h => by cases c <;> simp [decOwn] at h
  | .sl e d, k, c :: ws, r, o :: os, os', x, h => by
    cases c <;> simp only [decOwn, reduceCtorEq] at h
    rename_i k' n
    split at h
    · rename_i hk; subst hk
      split at h
      · rename_i xs hd
        simp only [Option.some.injEq, Prod.mk.injEq] at h
        obtain ⟨rfl, rfl, rfl⟩ := h
        have := decSl_ok hd
        subst this
        refine ⟨fun vs hv hw => ?_, fun hw => hw.2, rfl⟩
        have hn := lenO_objOf hw.1
        subst hn
        obtain ⟨v, vs', rfl, h1, h2, h3⟩ := hv.inv_cons
        exact ⟨[v], vs', rfl, .cons h1 h2 .nil, h3⟩
      · cases h
    · cases h

theorem decHs_ok : ∀ {k : Nat} {As : List HA} {as : List AV} {os : List AObj} {x : HD As}, okHs As = true → decHs k As as os = some x → wholeHs As as os →
    (∀ {vs : List Value}, vs.length = as.length → (∀ (i : Nat) c v, as[i]? = some c → vs[i]? = some v → CVal Φ L c v) →
      vs.length = (encHs k As x).length ∧ ∀ (i : Nat) c v, (encHs k As x)[i]? = some c → vs[i]? = some v → CVal Φ L c v) ∧
    os.length = (encOs As x).length ∧ ∀ (i : Nat) o', (encOs As x)[i]? = some o' → ∃ o, os[i]? = some o ∧ o.live = o'.live ∧ (∀ l, ObjOk Φ L w l o → ObjOk Φ L w l o') ∧ ∀ l F, Dp Φ L w l F o → Dp Φ L w l F o'
  | k, [], [], [], x, _, h, _ => ⟨fun hl hv => ⟨by simpa [encHs] using hl, fun i c v hc => by simp [encHs] at hc⟩, rfl, fun i o' ho => by simp [encOs] at ho⟩
  | k, .val g T :: r, [], os, x, _, h, _ => by simp [decHs] at h
  | k, .val g T :: r, a :: as, os, x, hok, h, hw => by
    simp only [okHs, Bool.and_eq_true, Bool.or_eq_true, beq_iff_eq] at hok
    simp only [decHs] at h
    split at h
    · rename_i y h1
      split at h
      · rename_i z h2
        simp only [Option.some.injEq] at h; subst h
        obtain ⟨e1, e2, e3⟩ := decHs_ok hok.2 h2 (by simpa [wholeHs] using hw)
        refine ⟨fun {vs} hl hv => ?_, by simpa [encOs] using e2, fun i o' ho => e3 i o' (by simpa [encOs] using ho)⟩
        cases vs with
        | nil => simp at hl
        | cons v vs =>
          obtain ⟨f1, f2⟩ := e1 (vs := vs) (by simpa using hl) fun i c v hc hv' => hv (i + 1) c v (by simpa using hc) (by simpa using hv')
          refine ⟨by simp [encHs, f1], fun i c u hc hu => ?_⟩
          cases i with
          | zero =>
            simp [encHs] at hc hu; subst hc; subst hu
            exact decA_ok h1 (fun e => hok.1.resolve_left (by rw [e]; simp)) (hv 0 a v rfl rfl)
          | succ i => exact f2 i c u (by simpa [encHs] using hc) (by simpa using hu)
      · cases h
    · cases h
  | k, .ref t T :: r, [], os, x, hok, h, hw => by simp [decHs] at h
  | k, .ref t T :: r, a :: as, [], x, hok, h, hw => by simp [decHs] at h
  | k, .arr e T :: r, [], os, x, hok, h, hw => by simp [decHs] at h
  | k, .arr e T :: r, a :: as, [], x, hok, h, hw => by simp [decHs] at h
  | k, .ref t T :: r, a :: as, o :: os, x, hok, h, hw => by
    simp only [decHs] at h
    split at h
    · rename_i y h1
      split at h
      · rename_i z h2
        simp only [Option.some.injEq] at h; subst h
        obtain ⟨e1, e2, e3⟩ := decHs_ok (by simpa [okHs] using hok) h2 (by simpa [wholeHs] using hw)
        obtain ⟨cs, ha, rfl, hu⟩ : ∃ cs, a = .ptr k 0 ∧ o = .cells t cs ∧ unflat1 T cs = some y := by
          unfold decRef at h1
          split at h1
          · split at h1
            · rename_i hc; obtain ⟨rfl, rfl⟩ := hc; exact ⟨_, rfl, rfl, h1⟩
            · cases h1
          · cases h1
        subst ha
        refine ⟨fun {vs} hl hv => ?_, by simpa [encOs] using e2, fun i o' ho => ?_⟩
        · cases vs with
          | nil => simp at hl
          | cons v vs =>
            obtain ⟨f1, f2⟩ := e1 (vs := vs) (by simpa using hl) fun i c v hc hv' => hv (i + 1) c v (by simpa using hc) (by simpa using hv')
            refine ⟨by simp [encHs, f1], fun i c u hc hu => ?_⟩
            cases i with
            | zero => simp [encHs] at hc hu; subst hc; subst hu; exact hv 0 _ v rfl rfl
            | succ i => exact f2 i c u (by simpa [encHs] using hc) (by simpa using hu)
        · cases i with
          | zero =>
            simp [encOs] at ho; subst ho
            refine ⟨_, rfl, rfl, fun l hk => ?_, fun l F hd => hd⟩
            obtain ⟨g, cap, vs, rfl, hg, hc⟩ := hk
            exact ⟨g, cap, vs, rfl, hg, CVals.of_rep (unflat1_ok hu hc)⟩
          | succ i => exact e3 i o' (by simpa [encOs] using ho)
      · cases h
    · cases h
  | k, .arr e T :: r, a :: as, o :: os, x, hok, h, hw => by
    simp only [decHs] at h
    split at h
    · rename_i y h1
      split at h
      · rename_i z h2
        simp only [Option.some.injEq] at h; subst h
        obtain ⟨hw1, hw2⟩ : wholeA a o ∧ wholeHs r as os := by simpa [wholeHs] using hw
        obtain ⟨e1, e2, e3⟩ := decHs_ok (by simpa [okHs] using hok) h2 hw2
        obtain ⟨n, ha, rfl⟩ : ∃ n, a = .osl k n ∧ o = .arr T e y := by
          unfold decArr at h1
          split at h1
          · split at h1
            · rename_i hT; subst hT
              split at h1
              · rename_i hc; obtain ⟨rfl, rfl⟩ := hc
                simp only [castL_rfl, Option.some.injEq] at h1; subst h1; exact ⟨_, rfl, rfl⟩
              · cases h1
            · cases h1
          · cases h1
        subst ha
        have hw1 : n = y.length := hw1
        subst hw1
        refine ⟨fun {vs} hl hv => ?_, by simpa [encOs] using e2, fun i o' ho => ?_⟩
        · cases vs with
          | nil => simp at hl
          | cons v vs =>
            obtain ⟨f1, f2⟩ := e1 (vs := vs) (by simpa using hl) fun i c v hc hv' => hv (i + 1) c v (by simpa using hc) (by simpa using hv')
            refine ⟨by simp [encHs, f1], fun i c u hc hu => ?_⟩
            cases i with
            | zero => simp [encHs] at hc hu; subst hc; subst hu; exact hv 0 _ v rfl rfl
            | succ i => exact f2 i c u (by simpa [encHs] using hc) (by simpa using hu)
        · cases i with
          | zero => simp [encOs] at ho; subst ho; exact ⟨_, rfl, rfl, fun l hk => hk, fun l F hd => hd⟩
          | succ i => exact e3 i o' (by simpa [encOs] using ho)
      · cases h
    · cases h
  | k, .own g d :: r, [], os, x, hok, h, hw => by simp [decHs] at h
  | k, .own g d :: r, a :: as, os, x, hok, h, hw => by
    simp only [decHs] at h
    split at h
    · rename_i y os1 h1
      split at h
      · rename_i z h2
        simp only [Option.some.injEq] at h; subst h
        simp only [okHs, Bool.and_eq_true, Bool.or_eq_true] at hok
        obtain ⟨hw1, hw2⟩ : wholeW (if g then cellsA a else [a]) os ∧ wholeHs r as (os.drop (slN d)) := by simpa [wholeHs] using hw
        have key : ∃ ws, decOwn k d ws os = some (y, [], os1) ∧ wholeW ws os ∧ ∀ v, CVal Φ L a v → CVals Φ L ws v.cells.toList ∧ (∀ ws', CVals Φ L ws' v.cells.toList → (g = false → ws'.length = 1) → CVal Φ L (if g then .agg ws' else ws'.headD .any) v) := by
          cases g with
          | true =>
            simp only [if_true] at h1 hw1
            split at h1
            · rename_i cs
              refine ⟨cs, h1, hw1, fun v hv => ?_⟩
              cases hv with
              | agg _ vs a1 a2 a3 =>
                refine ⟨CVals.of_agg (.agg _ _ a1 a2 a3), fun ws' hws _ => ?_⟩
                have := packV_ok hws
                simpa [Value.cells] using this
            · cases h1
          | false =>
            simp only [Bool.false_eq_true, if_false] at h1 hw1
            obtain ⟨e', d', rfl⟩ : ∃ e' d', d = .sl e' d' := by
              have : isSl d = true := by simpa using hok.1
              cases d <;> first | exact ⟨_, _, rfl⟩ | cases this
            have hcell : isCell a = true ∧ cellsA a = [a] := by
              cases a <;> first | exact ⟨rfl, rfl⟩ | simp [decOwn] at h1
            refine ⟨[a], h1, hw1, fun v hv => ?_⟩
            have hc := cellsA_ok hv hcell.1
            rw [hcell.2] at hc
            refine ⟨hc, fun ws' hws hl => ?_⟩
            have hl := hl rfl
            obtain ⟨c, rfl⟩ := List.length_eq_one_iff.1 hl
            obtain ⟨u, us, hcu, _, h5, h6⟩ := hws.inv_cons
            have hus := h6.inv_nil
            subst hus
            have : v.cells.toList = [v] := by
              have hone := hv.one hcell.1 fun cs e => by subst e; simp [decOwn] at h1
              cases v <;> first | rfl | (simp [Value.oneCell'] at hone)
            rw [this] at hcu
            simp only [List.cons.injEq, and_true] at hcu
            subst hcu
            exact h5
        obtain ⟨ws, g1, g2, g3⟩ := key
        obtain ⟨b1, b2, b3⟩ := decOwn_ok (Φ := Φ) (L := L) g1
        have hdrop : os.drop (slN d) = os1 := by rw [b3, List.drop_left' (openW_len d y 0)]
        rw [hdrop] at hw2
        obtain ⟨e1, e2, e3⟩ := decHs_ok hok.2 h2 hw2
        refine ⟨fun {vs} hl hv => ?_, ?_, fun i o' ho => ?_⟩
        · cases vs with
          | nil => simp at hl
          | cons v vs =>
            obtain ⟨f1, f2⟩ := e1 (vs := vs) (by simpa using hl) fun i c v hc hv' => hv (i + 1) c v (by simpa using hc) (by simpa using hv')
            have hee : k + (openW d y k).2.length = k + (openW d y 0).2.length := by rw [openW_len, openW_len]
            refine ⟨by simp only [encHs, List.length_cons, hee]; omega, fun i c u hc hu => ?_⟩
            cases i with
            | zero =>
              simp only [encHs, List.getElem?_cons_zero, Option.some.injEq] at hc hu
              subst hc; subst hu
              obtain ⟨c1, c2⟩ := g3 v (hv 0 a v rfl rfl)
              obtain ⟨v1, v2, hvv, d1, d2⟩ := b1 _ c1 g2
              have := d2.inv_nil
              subst this
              rw [List.append_nil] at hvv
              rw [← hvv] at d1
              refine c2 _ d1 fun hg => ?_
              subst hg
              obtain ⟨e', d', rfl⟩ : ∃ e' d', d = .sl e' d' := by
                have : isSl d = true := by simpa using hok.1
                cases d <;> first | exact ⟨_, _, rfl⟩ | cases this
              rfl
            | succ i => exact f2 i c u (by simpa [encHs, hee] using hc) (by simpa using hu)
        · simp only [encOs, List.length_append]
          rw [← e2, b3, List.length_append]
        · simp only [encOs] at ho
          rw [b3]
          by_cases hi : i < (openW d y 0).2.length
          · rw [List.getElem?_append_left hi] at ho ⊢
            exact ⟨o', ho, rfl, fun l hk => hk, fun l F hd => hd⟩
          · rw [List.getElem?_append_right (by omega)] at ho ⊢
            exact e3 _ o' ho
      · cases h
    · cases h
  | k, [], _ :: _, os, x, _, h, _ => by simp [decHs] at h
  | k, [], [], _ :: _, x, _, h, _ => by simp [decHs] at h

theorem Inv.recast {H' : List AObj} (h : Inv C Φ L H w) (hl : H.length = H'.length) (hk : ∀ (i : Nat) o', H'[i]? = some o' → ∃ o, H[i]? = some o ∧ o.live = o'.live ∧ (∀ l, ObjOk Φ L w l o → ObjOk Φ L w l o') ∧ ∀ l F, Dp Φ L w l F o → Dp Φ L w l F o') : Inv C Φ L H' w where
  len := by rw [h.len, hl]
  frz := h.frz
  base := h.base
  glob := h.glob
  fresh := h.fresh
  os := h.os
  tape := h.tape
  output := h.output
  size := h.size
  keep := h.keep
  pre := h.pre
  obj γ o' ho := by
    obtain ⟨o, h1, h2, h3, _⟩ := hk γ o' ho
    obtain ⟨l, hl, hk⟩ := h.obj γ o h1
    exact ⟨l, hl, h3 l hk⟩
  own γ o' g cap ho hlv hlg := by
    obtain ⟨o, h1, h2, h3⟩ := hk γ o' ho
    exact h.own γ o g cap h1 (by rw [h2]; exact hlv) hlg
  inj γ δ o1 o2 g cap cap' hne h1 hl1 h2 hl2 e1 e2 := by
    obtain ⟨x, a1, a2, _⟩ := hk γ o1 h1
    obtain ⟨y, b1, b2, _⟩ := hk δ o2 h2
    exact h.inj γ δ x y g cap cap' hne a1 (by rw [a2]; exact hl1) b1 (by rw [b2]; exact hl2) e1 e2
  deep := by
    obtain ⟨F, hF⟩ := h.deep
    refine Deep.sel (C' := C) hF id (fun i o ho hlv => ?_) (fun i j o o' _ _ e => e) fun i o ho hlv b hb => ?_
    · obtain ⟨o', h1, h2, h3, h4⟩ := hk i o ho
      exact ⟨o', h1, by rw [h2]; exact hlv, rfl, fun l G hd => h4 l G hd⟩
    · obtain ⟨o', h1, h2, h3, h4⟩ := hk i o ho
      exact (hF i o' h1 (by rw [h2]; exact hlv)).old b hb

def modesH : List HA → List Bool
  | [] => []
  | .val _ _ :: r => false :: modesH r
  | _ :: r => true :: modesH r

theorem HCtrOk.add {f : FuncId} {As : List HA} {s : HSpec As} (h : HSpecOk P f s) (hok : okHs As = true) {γ : HCtr} (hΓ : HCtrOk P γ) : HCtrOk P (fun g => if g = f then some (modesH As, ctrH s) else γ g) := by
  intro g ms K hg args H0 r hr hp
  simp only at hg
  split at hg
  · rename_i hgf; subst hgf
    simp only [Option.some.injEq, Prod.mk.injEq] at hg
    obtain ⟨rfl, rfl⟩ := hg
    unfold ctrH at hr
    split at hr
    · rename_i x hx
      simp only [Option.some.injEq] at hr; subst hr
      intro w Φ L W vs hI hsz hv
      obtain ⟨e1, e2, e3⟩ := decHs_ok (Φ := Φ) (L := L) (w := w) hok hx hp.1
      obtain ⟨f1, f2⟩ := e1 (vs := vs.toList) (by simpa using hsz) (fun i c v hc hv' => hv i c v hc (by simpa using hv'))
      exact h x hp.2 w Φ L W vs (hI.recast e2 e3) (by simpa using f1) fun i c v hc hv' => f2 i c v hc (by simpa using hv')
    · cases hr
  · exact hΓ g ms K hg args H0 r hr hp
theorem CtrsOk.addH {f : FuncId} {As : List HA} {s : HSpec As} (h : HSpecOk P f s) (hok : okHs As = true) (hΓ : CtrsOk P Γ) : CtrsOk P (addH f (modesH As, ctrH s) Γ) := ⟨hΓ.1, HCtrOk.add h hok hΓ.2.1, hΓ.2.2⟩
theorem XCtrOk.add {f : FuncId} {As : List HA} {s : XSpec As} (h : XSpecOk P f s) (hok : okHs As = true) {γ : XCtr} (hΓ : XCtrOk P γ) : XCtrOk P (fun g => if g = f then some (modesH As, ctrX s) else γ g) := by
  intro g ms K hg args H0 r hr hp
  simp only at hg
  split at hg
  · rename_i hgf; subst hgf
    simp only [Option.some.injEq, Prod.mk.injEq] at hg
    obtain ⟨rfl, rfl⟩ := hg
    unfold ctrX at hr
    split at hr
    · rename_i x hx
      simp only [Option.some.injEq] at hr; subst hr
      intro w Φ L W vs hI hsz hv
      obtain ⟨e1, e2, e3⟩ := decHs_ok (Φ := Φ) (L := L) (w := w) hok hx hp.1
      obtain ⟨f1, f2⟩ := e1 (vs := vs.toList) (by simpa using hsz) (fun i c v hc hv' => hv i c v hc (by simpa using hv'))
      exact h x hp.2 w Φ L W vs (hI.recast e2 e3) (by simpa using f1) fun i c v hc hv' => f2 i c v hc (by simpa using hv')
    · cases hr
  · exact hΓ g ms K hg args H0 r hr hp
/-- A contract of a function that follows names in what it is handed. -/
def addY (f : FuncId) (m : List Bool × (List AV → List AObj → Option HR)) (Γ : Ctrs) : Ctrs := ⟨Γ.q, Γ.h, Γ.pl, Γ.dt, Γ.z, Γ.x, fun g => if g = f then some m else Γ.y g⟩
def YSpecOk (P : Program) (f : FuncId) (K : List AV → List AObj → Option HR) : Prop := ∀ args H0 r, K args H0 = some r → r.pre → HOk P f args H0 r.res r.heap
theorem CtrsOk.addY {f : FuncId} {ms : List Bool} {K : List AV → List AObj → Option HR} (h : YSpecOk P f K) (hΓ : CtrsOk P Γ) : CtrsOk P (addY f (ms, K) Γ) := by
  refine ⟨hΓ.1, hΓ.2.1, hΓ.2.2.1, hΓ.2.2.2.1, fun g ms' K' hg => ?_⟩
  simp only [Go.Proofs.Ythojapklndjidaa.addY] at hg
  split at hg
  · rename_i e
    simp only [Option.some.injEq, Prod.mk.injEq] at hg
    obtain ⟨_, rfl⟩ := hg
    subst e
    exact h
  · exact hΓ.2.2.2.2 g ms' K' hg
theorem CtrsOk.addX {f : FuncId} {As : List HA} {s : XSpec As} (h : XSpecOk P f s) (hok : okHs As = true) (hΓ : CtrsOk P Γ) : CtrsOk P (addX f (modesH As, ctrX s) Γ) := ⟨hΓ.1, hΓ.2.1, hΓ.2.2.1, XCtrOk.add h hok hΓ.2.2.2.1, hΓ.2.2.2.2⟩
theorem CtrsOk.addZ {f : FuncId} {As : List HA} {s : HSpec As} (h : HSpecOk P f s) (hok : okHs As = true) (hΓ : CtrsOk P Γ) : CtrsOk P (addZ f (modesH As, ctrH s) Γ) := ⟨hΓ.1, hΓ.2.1, HCtrOk.add h hok hΓ.2.2.1, hΓ.2.2.2⟩
end
end Go.Proofs.Ythojapklndjidaa
