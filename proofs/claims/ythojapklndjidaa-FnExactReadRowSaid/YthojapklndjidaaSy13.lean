/- Contracts of functions; regions; the machine as a whole. -/
import Derived.Test.YthojapklndjidaaSyE
import Derived.Deep.Quiet
namespace Go.Proofs.Ythojapklndjidaa
open Go Go.RowKit
set_option linter.unusedVariables false
set_option linter.all false

/-! ### Contracts -/

/-- What lies behind the objects that a call hands back. -/
def NewDeep (Φ : Nat → Option Obj) (Ln : Locs) (objs : List AObj) (w w' : World) (L : Locs) : Prop :=
  ∃ F : Nat → List Nat, ∀ (i : Nat) o, objs[i]? = some o → o.live = true → (∃ l, Ln[i]? = some l ∧ Dp Φ (L ++ Ln) w' l (F i) o) ∧ (F i).Nodup ∧ (∀ b ∈ F i, w.heap.size ≤ b ∧ b < w'.heap.size ∧ Φ b = none) ∧
    (∀ b ∈ F i, ∀ (j : Nat) o' cap, objs[j]? = some o' → o'.live = true → Ln[j]? ≠ some (some (b, cap))) ∧ ∀ (j : Nat) o', j ≠ i → objs[j]? = some o' → o'.live = true → ∀ b ∈ F i, b ∉ F j

/-- The objects that a call hands back: new arrays. -/
def NewObjs (Φ : Nat → Option Obj) (n : Nat) (Ln : Locs) (objs : List AObj) (w w' : World) (L : Locs) : Prop :=
  Ln.length = objs.length ∧ (∀ (i : Nat) o, objs[i]? = some o → ∃ l, Ln[i]? = some l ∧ ObjOk Φ (L ++ Ln) w' l o) ∧
  (∀ (i : Nat) o g cap, objs[i]? = some o → o.live = true → Ln[i]? = some (some (g, cap)) → Φ g = none ∧ w.heap.size ≤ g) ∧
  (∀ (i j : Nat) o o' g cap cap', i ≠ j → objs[i]? = some o → o.live = true → objs[j]? = some o' → o'.live = true → Ln[i]? = some (some (g, cap)) → Ln[j]? = some (some (g, cap')) → False) ∧ NewDeep Φ Ln objs w w' L

def FnOk (P : Program) (f : FuncId) (args : List AV) (n : Nat) (res : AV) (objs : List AObj) : Prop :=
  ∀ (w : World) (Φ : Nat → Option Obj) (L : Locs) (vs : Array Value), L.length = n → (∀ b o, Φ b = some o → w.heap[b]? = some o) → GlOk Φ → vs.size = args.length →
    (∀ (i : Nat) c v, args[i]? = some c → vs[i]? = some v → CVal Φ [] c v) →
    Calls P f vs w fun e w' => ∃ v Φ' Ln, e = .returned v ∧ Below w.heap.size w w' ∧ More Φ Φ' ∧ (∀ b o, Φ' b = some o → w'.heap[b]? = some o) ∧ (∀ b o, Φ' b = some o → Φ b = some o ∨ w.heap.size ≤ b) ∧
      NewObjs Φ' n Ln objs w w' L ∧ CVal Φ' (L ++ Ln) res v

structure CR where
  pre : Prop
  res : AV
  objs : List AObj

abbrev Ctr := FuncId → List AV → Nat → Option CR

def CtrOk (P : Program) (Γ : Ctr) : Prop := ∀ f args n r, Γ f args n = some r → r.pre → FnOk P f args n r.res r.objs

/-! ### What a call is handed: words without names -/

def viewC (H : List AObj) : AV → Prop × AV
  | .osl β n => match H[β]? with
    | some (.arr T _ xs) => (n ≤ xs.length, .sl T (xs.take n))
    | some (.frz T xs) => (n ≤ xs.length, .sl T (xs.take n))
    | some (.deep d _ xs) => (n ≤ xs.length, .sl d.ty (xs.take n))
    | _ => (True, .any)
  | .bool b => (True, .bool b)
  | .int k n => (True, .int k n)
  | .str s => (True, .str s)
  | .sl T xs => (True, .sl T xs)
  | .nilsl => (True, .nilsl)
  | .nilp => (True, .nilp)
  | .nilfn => (True, .nilfn)
  | .nili => (True, .nili)
  | _ => (True, .any)

/-- The datum of a cell. -/
def cellD : AV → Option ((T : Ty) × T.D)
  | .bool b => some ⟨.bool, b⟩
  | .int k n => some ⟨.int k, n⟩
  | .str s => some ⟨.str, s⟩
  | .sl T xs => some ⟨.sl T, xs⟩
  | _ => none
def cellsD : List AV → Option ((T : Ty) × T.D)
  | [] => none
  | [c] => cellD c
  | c :: r => match cellD c with
    | some a => match cellsD r with
      | some b => some ⟨.pair a.1 b.1, (a.2, b.2)⟩
      | none => none
    | none => none
/-- A name of a variable, taken for a place in frozen memory. -/
def viewP (H : List AObj) : AV → Prop × AV
  | .ptr γ off => match H[γ]? with
    | some (.cells _ cs) => match cellsD (cs.map fun c => (viewC H c).2) with
      | some x => ((cs.map (viewC H)).foldr (fun p q => p.1 ∧ q) True, .eptr x.1 [x.2] 0 off)
      | none => (True, .any)
    | _ => (True, .any)
  | .eptr T xs i off => (True, .eptr T xs i off)
  | c => viewC H c

def viewA (H : List AObj) : AV → Prop × AV
  | .agg cs => ((cs.map (viewC H)).foldr (fun p q => p.1 ∧ q) True, .agg (cs.map fun c => (viewC H c).2))
  | .fn f cs => ((cs.map (viewP H)).foldr (fun p q => p.1 ∧ q) True, .fn f (cs.map fun c => (viewP H c).2))
  | c => viewP H c

section
variable {P : Program} {C : Ctx} {Φ : Nat → Option Obj} {L : Locs} {H : List AObj} {w : World}

theorem RepT.all {Φ Φ' : Nat → Option Obj} (hm : More Φ Φ') {T : Ty} {x : T.D} {vs : List Value} (h : RepT Φ T x vs) : RepT Φ' T x vs := h.more hm

/-- The whole heap taken for frozen, while a call runs that turns nothing of it. -/
theorem viewC_ok (hI : Inv C Φ L H w) {c : AV} (hp : (viewC H c).1) {v : Value} (hv : CVal Φ L c v) : CVal (fun b => w.heap[b]?) [] (viewC H c).2 v := by
  have hm : More Φ (fun b => w.heap[b]?) := hI.frz
  unfold viewC at hp ⊢
  split
  · rename_i β n
    split
    · rename_i T e xs ho
      simp only [ho] at hp
      obtain ⟨l, cells, hl, hown, hr⟩ := hI.row ho
      obtain ⟨rfl, h0⟩ := hdr_osl hv hl
      exact .sl _ _ _ (RepT.of_row hown (hr.more hm) (fun g cap hg o ho => ho) n hp)
    · rename_i T xs ho
      simp only [ho] at hp
      cases hI.frozen ho n v hp hv with
      | sl _ _ _ hr => exact .sl _ _ _ (hr.more hm)
    · rename_i d e xs ho
      simp only [ho] at hp
      obtain ⟨F, hF⟩ := hI.deep
      obtain ⟨l, hl, cells, hown, hr⟩ := (hF β _ ho rfl).is
      obtain ⟨rfl, h0⟩ := hdr_osl hv hl
      exact .sl _ _ _ (RepT.of_row hown (LRep.toRepL (fun x v F h => RepO.rep h) hr) (fun g cap hg o ho => ho) n hp)
    · exact .any _
  · cases hv; exact .bool _
  · cases hv with | int _ _ h => exact .int _ _ h
  · cases hv with | str _ h => exact .str _ h
  · cases hv with | sl _ _ _ h => exact .sl _ _ _ (h.more hm)
  · cases hv; exact .nilsl
  · cases hv; exact .nilp
  · cases hv; exact .nilfn
  · cases hv; exact .nili
  · exact .any _

theorem foldr_and {ps : List (Prop × AV)} (h : ps.foldr (fun p q => p.1 ∧ q) True) : ∀ (i : Nat) p, ps[i]? = some p → p.1 := by
  induction ps with
  | nil => intro i p hp; simp at hp
  | cons a r ih =>
    intro i p hp
    cases i with
    | zero => simp at hp; subst hp; exact h.1
    | succ i => exact ih h.2 i p (by simpa using hp)

theorem cellD_ok {Φ : Nat → Option Obj} {L : Locs} {c : AV} {x : (T : Ty) × T.D} (h : cellD c = some x) {v : Value} (hv : CVal Φ L c v) : RepT Φ x.1 x.2 [v] := by
  unfold cellD at h
  split at h
  · simp only [Option.some.injEq] at h; subst h; cases hv; rfl
  · simp only [Option.some.injEq] at h; subst h
    cases hv with | int _ _ hk => exact ⟨rfl, hk⟩
  · simp only [Option.some.injEq] at h; subst h
    cases hv with | str _ hk => exact ⟨rfl, hk⟩
  · simp only [Option.some.injEq] at h; subst h
    cases hv with | sl _ _ _ hr => exact hr
  · cases h
theorem cellsD_ok {Φ : Nat → Option Obj} {L : Locs} : ∀ {cs : List AV} {x : (T : Ty) × T.D}, cellsD cs = some x → ∀ {vs : List Value}, vs.length = cs.length → (∀ (i : Nat) c v, cs[i]? = some c → vs[i]? = some v → CVal Φ L c v) → RepT Φ x.1 x.2 vs
  | [], x, h, vs, hl, hv => by simp [cellsD] at h
  | [c], x, h, vs, hl, hv => by
    match vs, hl with
    | [v], _ => exact cellD_ok (by simpa [cellsD] using h) (hv 0 c v rfl rfl)
  | c :: d :: r, x, h, vs, hl, hv => by
    match vs, hl with
    | v :: ws, hl =>
      simp only [cellsD] at h
      split at h
      · rename_i a ha
        split at h
        · rename_i b hb
          simp only [Option.some.injEq] at h; subst h
          exact ⟨[v], ws, rfl, cellD_ok ha (hv 0 c v rfl rfl), cellsD_ok (cs := d :: r) hb (by simpa using hl) fun i c' v' hc hv' => hv (i + 1) c' v' (by simpa using hc) (by simpa using hv')⟩
        · cases h
      · cases h
theorem viewP_ok (hI : Inv C Φ L H w) {c : AV} (hp : (viewP H c).1) {v : Value} (hv : CVal Φ L c v) : CVal (fun b => w.heap[b]?) [] (viewP H c).2 v := by
  have hm : More Φ (fun b => w.heap[b]?) := hI.frz
  by_cases h1 : ∃ γ off, c = .ptr γ off
  · obtain ⟨γ, off, rfl⟩ := h1
    simp only [viewP] at hp ⊢
    split
    · rename_i t cs ho
      simp only [ho] at hp
      split
      · rename_i x hx
        simp only [hx] at hp
        obtain ⟨g, cap, vs, hl, hg, hcs⟩ := hI.var ho
        have hr : RepT (fun b => w.heap[b]?) x.1 x.2 vs.toList := by
          refine cellsD_ok (L := []) hx (by simpa using hcs.1) fun i c' v' hc' hv' => ?_
          rw [List.getElem?_map] at hc'
          cases hci : cs[i]? with
          | none => rw [hci] at hc'; simp at hc'
          | some y =>
            rw [hci] at hc'; simp at hc'; subst hc'
            exact viewC_ok hI (foldr_and hp i _ (by rw [List.getElem?_map, hci]; rfl)) (hcs.2 i y v' hci hv').2
        cases hv with
        | ptr _ _ g' cap' hl' =>
          rw [hl] at hl'
          simp only [Option.some.injEq, Prod.mk.injEq] at hl'
          obtain ⟨rfl, rfl⟩ := hl'
          have := CVal.eptr (Φ := fun b => w.heap[b]?) (L := []) x.1 [x.2] 0 off g 0 1 ⟨_, _, rfl, by simp, by simp [maxB], .inr ⟨g, 0, vs, t, (0, 0), rfl, hg, fun i hi => by
            obtain rfl : i = 0 := by simp at hi; omega
            exact ⟨vs.toList, hr, fun j u hu => by simpa using hu⟩⟩⟩ (by simp)
          simpa using this
      · exact .any _
    · exact .any _
  · by_cases h2 : ∃ T xs i off, c = .eptr T xs i off
    · obtain ⟨T, xs, i, off, rfl⟩ := h2
      simp only [viewP]
      cases hv with
      | eptr _ _ _ _ b o cap hr hi => exact .eptr _ _ _ _ b o cap (RepT.all hm hr) hi
    · have e : viewP H c = viewC H c := by
        unfold viewP
        split
        · exact absurd ⟨_, _, rfl⟩ h1
        · exact absurd ⟨_, _, _, _, rfl⟩ h2
        · rfl
      rw [e] at hp ⊢
      exact viewC_ok hI hp hv

theorem viewA_ok (hI : Inv C Φ L H w) {c : AV} (hp : (viewA H c).1) {v : Value} (hv : CVal Φ L c v) : CVal (fun b => w.heap[b]?) [] (viewA H c).2 v := by
  by_cases hagg : ∃ cs, c = .agg cs
  · obtain ⟨cs, rfl⟩ := hagg
    simp only [viewA] at hp ⊢
    cases hv with
    | agg _ vs h1 h2 h3 =>
      refine .agg _ vs (by simpa using h1) h2 fun i c v hc hv => ?_
      rw [List.getElem?_map] at hc
      cases hci : cs[i]? with
      | none => rw [hci] at hc; simp at hc
      | some x =>
        rw [hci] at hc; simp at hc; subst hc
        exact viewC_ok hI (foldr_and hp i _ (by rw [List.getElem?_map, hci]; rfl)) (h3 i x v hci hv)
  · by_cases hfn : ∃ f cs, c = .fn f cs
    · obtain ⟨f, cs, rfl⟩ := hfn
      simp only [viewA] at hp ⊢
      cases hv with
      | fn _ _ us h1 h2 =>
        refine .fn _ _ us (by simpa using h1) fun i c v hc hv => ?_
        rw [List.getElem?_map] at hc
        cases hci : cs[i]? with
        | none => rw [hci] at hc; simp at hc
        | some x =>
          rw [hci] at hc; simp at hc; subst hc
          exact viewP_ok hI (foldr_and hp i _ (by rw [List.getElem?_map, hci]; rfl)) (h2 i x v hci hv)
    have e : viewA H c = viewP H c := by
      unfold viewA
      split
      · exact absurd ⟨_, rfl⟩ hagg
      · exact absurd ⟨_, _, rfl⟩ hfn
      · rfl
    rw [e] at hp ⊢
    exact viewP_ok hI hp hv

/-- Lists of data that lean on no frozen memory. -/
theorem RepL.flat {Φ Φ' : Nat → Option Obj} {T : Ty} (hf : flatTy T = true) : ∀ {xs : List T.D} {cs : List Value}, RepL Φ T xs cs → RepL Φ' T xs cs
  | [], _, h => h
  | x :: xs, _, h => by obtain ⟨v1, v2, rfl, h1, h2⟩ := h; exact ⟨v1, v2, rfl, RepT.flat hf h1, RepL.flat hf h2⟩

def flatC : AV → Bool
  | .bool _ => true
  | .int _ _ => true
  | .str _ => true
  | .nilsl => true
  | .osl _ _ => true
  | .nilp => true
  | .nili => true
  | _ => false
def flatV : AV → Bool
  | .agg cs => cs.all flatC
  | c => flatC c
def flatR : AV → Bool
  | .tup vs => vs.all flatV
  | c => flatV c
def flatO : AObj → Bool
  | .arr T _ _ => flatTy T
  | .deep .. => true
  | _ => false

theorem CVal.flatC {Φ Φ' : Nat → Option Obj} {L : Locs} {c : AV} {v : Value} (hf : flatC c = true) (h : CVal Φ L c v) : CVal Φ' L c v := by
  cases h <;> first | (cases hf; done) | skip
  · exact .bool _
  · exact .int _ _ ‹_›
  · exact .str _ ‹_›
  · exact .nilsl
  · exact .osl _ _ _ _ ‹_› ‹_› ‹_›
  · exact .oslnil _ _ ‹_› ‹_›
  · exact .nilp
  · exact .nili
theorem CVal.flatV {Φ Φ' : Nat → Option Obj} {L : Locs} {c : AV} {v : Value} (hf : flatV c = true) (h : CVal Φ L c v) : CVal Φ' L c v := by
  by_cases hagg : ∃ cs, c = .agg cs
  · obtain ⟨cs, rfl⟩ := hagg
    cases h with
    | agg _ vs h1 h2 h3 => exact .agg _ vs h1 h2 fun i c v hc hv => (h3 i c v hc hv).flatC (List.all_eq_true.1 hf c (List.mem_of_getElem? hc))
  · exact CVal.flatC (by unfold Go.Proofs.Ythojapklndjidaa.flatV at hf; split at hf; exact absurd ⟨_, rfl⟩ hagg; exact hf) h
theorem CVal.flatR {Φ Φ' : Nat → Option Obj} {L : Locs} {c : AV} {v : Value} (hf : flatR c = true) (h : CVal Φ L c v) : CVal Φ' L c v := by
  by_cases htup : ∃ cs, c = .tup cs
  · obtain ⟨cs, rfl⟩ := htup
    cases h with
    | tup _ vs h1 h3 => exact .tup _ vs h1 fun i c v hc hv => (h3 i c v hc hv).flatV (List.all_eq_true.1 hf c (List.mem_of_getElem? hc))
  · exact CVal.flatV (by unfold Go.Proofs.Ythojapklndjidaa.flatR at hf; split at hf; exact absurd ⟨_, rfl⟩ htup; exact hf) h
theorem ObjOk.flat {Φ Φ' : Nat → Option Obj} {L : Locs} {l : Option (Nat × Nat)} {o : AObj} (hf : flatO o = true) (h : ObjOk Φ L w l o) : ObjOk Φ' L w l o := by
  cases o <;> first | (cases hf; done) | skip
  · obtain ⟨cells, h1, h2⟩ := h
    exact ⟨cells, h1, RepL.flat hf h2⟩
  · exact h
theorem Dp.flatO {Φ Φ' : Nat → Option Obj} {L L' : Locs} {l : Option (Nat × Nat)} {F : List Nat} {o : AObj} (hf : flatO o = true) (h : Dp Φ L w l F o) : Dp Φ' L' w l F o := by
  cases o <;> first | (cases hf; done) | exact h

theorem Deep.news (h : Inv C Φ L H w) {w' : World} (hb : Below w.heap.size w w') {objs : List AObj} {Ln : Locs} (hl : Ln.length = objs.length) (hd : NewDeep Φ Ln objs w w' L)
    (hg : ∀ (i : Nat) o g cap, objs[i]? = some o → o.live = true → Ln[i]? = some (some (g, cap)) → w.heap.size ≤ g) : Deep C Φ (L ++ Ln) (H ++ objs) w' := by
  obtain ⟨F, hF⟩ := h.deep
  obtain ⟨F1, hF1⟩ := hd
  have hL : ∀ (i : Nat) x, L[i]? = some x → (L ++ Ln)[i]? = some x := fun i x hx => by rw [List.getElem?_append_left (List.getElem?_eq_some_iff.1 hx).1]; exact hx
  have cls : ∀ (γ : Nat) o, (H ++ objs)[γ]? = some o → (γ < H.length ∧ H[γ]? = some o ∧ (L ++ Ln)[γ]? = L[γ]?) ∨ (H.length ≤ γ ∧ objs[γ - H.length]? = some o ∧ (L ++ Ln)[γ]? = Ln[γ - H.length]?) := fun γ o ho => by
    by_cases hlt : γ < H.length
    · rw [List.getElem?_append_left hlt] at ho
      exact .inl ⟨hlt, ho, List.getElem?_append_left (by rw [h.len]; exact hlt)⟩
    · rw [List.getElem?_append_right (by omega)] at ho
      refine .inr ⟨by omega, ho, ?_⟩
      rw [List.getElem?_append_right (by rw [h.len]; omega), h.len]
  refine ⟨fun γ => if γ < H.length then F γ else F1 (γ - H.length), fun γ o ho hlv => ?_⟩
  rcases cls γ o ho with ⟨hlt, h1, hLγ⟩ | ⟨hge, h1, hLγ⟩
  · have k := hF γ o h1 hlv
    refine ⟨?_, ?_, ?_, ?_, ?_, ?_, ?_⟩ <;> simp only [if_pos hlt]
    · obtain ⟨l, a1, a2⟩ := k.is
      exact ⟨l, hL _ _ a1, (a2.keep (fun b hb' => hb.block b (k.lt b hb')) fun g cap _ hlt => hb.block g hlt).more (More.refl _) hL⟩
    · exact k.nd
    · exact fun b hb' => Nat.lt_of_lt_of_le (k.lt b hb') hb.size
    · exact k.fr
    · exact k.old
    · intro b hb' δ o' cap ho' hlv' e
      rcases cls δ o' ho' with ⟨_, h2, hLδ⟩ | ⟨_, h2, hLδ⟩
      · rw [hLδ] at e; exact k.hd b hb' δ o' cap h2 hlv' e
      · rw [hLδ] at e
        have := hg _ o' b cap h2 hlv' e
        have := k.lt b hb'; omega
    · intro δ o' hne ho' hlv' b hb' hb2
      rcases cls δ o' ho' with ⟨hlt', h2, hLδ⟩ | ⟨hge', h2, hLδ⟩
      · simp only [if_pos hlt'] at hb2; exact k.dj δ o' hne h2 hlv' b hb' hb2
      · simp only [if_neg (Nat.not_lt.2 hge')] at hb2
        have := ((hF1 _ o' h2 hlv').2.2.1 b hb2).1
        have := k.lt b hb'; omega
  · obtain ⟨k1, k2, k3, k4, k5⟩ := hF1 _ o h1 hlv
    refine ⟨?_, ?_, ?_, ?_, ?_, ?_, ?_⟩ <;> simp only [if_neg (Nat.not_lt.2 hge)]
    · obtain ⟨l, a1, a2⟩ := k1
      exact ⟨l, by rw [hLγ]; exact a1, a2⟩
    · exact k2
    · exact fun b hb' => (k3 b hb').2.1
    · exact fun b hb' => (k3 b hb').2.2
    · exact fun b hb' => .inl (Nat.le_trans h.size (k3 b hb').1)
    · intro b hb' δ o' cap ho' hlv' e
      rcases cls δ o' ho' with ⟨_, h2, hLδ⟩ | ⟨_, h2, hLδ⟩
      · rw [hLδ] at e
        have := h.lt h2 hlv' e
        have := (k3 b hb').1; omega
      · rw [hLδ] at e
        exact k4 b hb' _ o' cap h2 hlv' e
    · intro δ o' hne ho' hlv' b hb' hb2
      rcases cls δ o' ho' with ⟨hlt', h2, hLδ⟩ | ⟨hge', h2, hLδ⟩
      · simp only [if_pos hlt'] at hb2
        have := (hF δ o' h2 hlv').lt b hb2
        have := (k3 b hb').1; omega
      · simp only [if_neg (Nat.not_lt.2 hge')] at hb2
        exact k5 _ o' (by omega) h2 hlv' b hb' hb2

/-- New arrays beside what was there. -/
theorem Inv0.news : ∀ {objs : List AObj} {Ln : Locs} {L : Locs} {H : List AObj}, Inv0 C Φ L H w → Ln.length = objs.length →
    (∀ (i : Nat) o, objs[i]? = some o → ∃ l, Ln[i]? = some l ∧ ObjOk Φ (L ++ Ln) w l o ∧ flatO o = true) →
    (∀ (i : Nat) o g cap, objs[i]? = some o → o.live = true → Ln[i]? = some (some (g, cap)) → Φ g = none ∧ C.w0.heap.size ≤ g ∧ ∀ (γ : Nat) o' cap', H[γ]? = some o' → o'.live = true → L[γ]? ≠ some (some (g, cap'))) →
    (∀ (i j : Nat) o o' g cap cap', i ≠ j → objs[i]? = some o → o.live = true → objs[j]? = some o' → o'.live = true → Ln[i]? = some (some (g, cap)) → Ln[j]? = some (some (g, cap')) → False) →
    Inv0 C Φ (L ++ Ln) (H ++ objs) w
  | [], Ln, L, H, hI, hl, _, _, _ => by
    have : Ln = [] := List.eq_nil_of_length_eq_zero (by simpa using hl)
    subst this
    simpa using hI
  | o :: objs, [], L, H, hI, hl, _, _, _ => by simp at hl
  | o :: objs, l :: Ln, L, H, hI, hl, ho, hn, hd => by
    have e1 : L ++ l :: Ln = (L ++ [l]) ++ Ln := by simp
    have e2 : H ++ o :: objs = (H ++ [o]) ++ objs := by simp
    rw [e1, e2]
    obtain ⟨l', hl', hok, hf⟩ := ho 0 o rfl
    simp only [List.getElem?_cons_zero, Option.some.injEq] at hl'; subst hl'
    have hok' : ObjOk Φ (L ++ [l]) w l o := by
      cases o <;> first | (cases hf; done) | skip
      · exact hok
      · exact hok
    refine Inv0.news (hI.new hok' fun g cap he hlive => ?_) (by simpa using hl) (fun i x hx => ?_) (fun i x g cap hx hlv hlg => ?_) (fun i j x y g c1 c2 hne hx hlx hy hly e1 e2 => hd (i + 1) (j + 1) x y g c1 c2 (by omega) (by simpa using hx) hlx (by simpa using hy) hly (by simpa using e1) (by simpa using e2))
    · have := hn 0 o g cap rfl hlive (by simp [he])
      exact ⟨this.1, .inl this.2.1, this.2.2⟩
    · obtain ⟨l', h1, h2, h3⟩ := ho (i + 1) x (by simpa using hx)
      exact ⟨l', by simpa using h1, by rw [← e1]; exact h2, h3⟩
    · have := hn (i + 1) x g cap (by simpa using hx) hlv (by simpa using hlg)
      refine ⟨this.1, this.2.1, fun γ o' cap' hγ hlv' hlγ => ?_⟩
      rcases get_snoc hγ with ⟨hlt, hγ'⟩ | ⟨hγe, hoe⟩
      · rw [List.getElem?_append_left (by rw [hI.len]; exact hlt)] at hlγ
        exact this.2.2 γ o' cap' hγ' hlv' hlγ
      · subst hγe; subst hoe
        rw [← hI.len] at hlγ; simp at hlγ
        exact hd 0 (i + 1) o' x g cap' cap (by omega) rfl hlv' (by simpa using hx) hlv (by simp [hlγ]) (by simpa using hlg)

/-! ### Calls -/

def callable (P : Program) (f : FuncId) : Bool := match P.funcs[f]? with
  | some fn => fn.name != "runtime.NumGoroutine" && fn.body.isSome
  | none => false

def argsPre (H : List AObj) (args : List AV) : Prop := (args.map (viewA H)).foldr (fun p q => p.1 ∧ q) True

def callE (Γ : Ctr) (H : List AObj) (f : FuncId) (args : List AV) : Option ER :=
  match Γ f (args.map fun c => (viewA H c).2) H.length with
  | some r => if flatR r.res = true ∧ r.objs.all flatO = true then some ⟨argsPre H args ∧ r.pre, r.res, H ++ r.objs⟩ else none
  | none => none

theorem callE_ok {Γ : Ctr} (hΓ : CtrOk P Γ) (hI : Inv C Φ L H w) {f : FuncId} {args : List AV} {r : ER} (h : callE Γ H f args = some r) (hp : r.pre) {vs : Array Value} (hsz : vs.size = args.length)
    (hv : ∀ (i : Nat) c v, args[i]? = some c → vs[i]? = some v → CVal Φ L c v) :
    Calls P f vs w fun e w' => ∃ v, e = .returned v ∧ EPost C Φ L r v w' ∧ Below w.heap.size w w' := by
  unfold callE at h
  split at h
  · rename_i cr hcr
    split at h
    · rename_i hf
      simp only [Option.some.injEq] at h; subst h
      obtain ⟨hpa, hpr⟩ := hp
      have := hΓ f _ _ cr hcr hpr w (fun b => w.heap[b]?) L vs hI.len (fun _ _ h => h) (hI.glob.more hI.frz) (by simpa using hsz) (fun i c v hc hvi => by
        rw [List.getElem?_map] at hc
        cases hci : args[i]? with
        | none => rw [hci] at hc; simp at hc
        | some x =>
          rw [hci] at hc; simp at hc; subst hc
          exact viewA_ok hI (foldr_and hpa i _ (by rw [List.getElem?_map, hci]; rfl)) (hv i x v hci hvi))
      refine this.mono fun e w' ⟨v, Φ', Ln, he, hb, hm, hfz, hfr, ⟨hnl, hno, hnf, hnd, hdp⟩, hres⟩ => ⟨v, he, ⟨Φ, L ++ Ln, More.refl _, fun i x hx => by rw [List.getElem?_append_left (List.getElem?_eq_some_iff.1 hx).1]; exact hx, ?_, hres.flatR hf.1⟩, hb⟩
      refine ⟨Inv0.news (hI.toInv0.below hb) hnl (fun i o ho => ?_) (fun i o g cap ho hlv hlg => ?_) hnd, Deep.news hI hb hnl ?_ fun i o g cap ho hlv hlg => (hnf i o g cap ho hlv hlg).2⟩
      · obtain ⟨l, h1, h2⟩ := hno i o ho
        have hfo := List.all_eq_true.1 hf.2 o (List.mem_of_getElem? ho)
        exact ⟨l, h1, h2.flat hfo, hfo⟩
      · have hg := (hnf i o g cap ho hlv hlg).2
        refine ⟨?_, Nat.le_trans hI.size hg, fun γ o' cap' hγ hlv' hlγ => ?_⟩
        · cases hΦ : Φ g with
          | none => rfl
          | some x => have := lt_of_block (hI.frz _ _ hΦ); omega
        · have := hI.lt hγ hlv' hlγ; omega
      · obtain ⟨F1, hF1⟩ := hdp
        refine ⟨F1, fun i o ho hlv => ?_⟩
        obtain ⟨⟨l, a1, a2⟩, k2, k3, k4, k5⟩ := hF1 i o ho hlv
        refine ⟨⟨l, a1, a2.flatO (List.all_eq_true.1 hf.2 o (List.mem_of_getElem? ho))⟩, k2, fun b hb' => ⟨(k3 b hb').1, (k3 b hb').2.1, ?_⟩, k4, k5⟩
        cases hΦ : Φ b with
        | none => rfl
        | some x =>
          have := lt_of_block (hI.frz _ _ hΦ)
          have := (k3 b hb').1; omega
    · cases h
  · cases h

/-- Words that have one value. -/
def detC : AV → Option Value
  | .bool b => some (.bool b)
  | .int k n => some (.int k n)
  | .str s => some (.string ⟨s.toArray⟩)
  | .nilp => some (.pointer none)
  | .nili => some .nilIface
  | _ => none
def detR : AV → Option Value
  | .tup vs => (vs.mapM detC).map fun l => .tuple l.toArray
  | c => detC c

theorem detC_ok {c : AV} {u v : Value} (h : detC c = some u) (hv : CVal Φ L c v) : v = u := by
  cases hv <;> simp [detC] at h <;> exact h
theorem detR_ok {c : AV} {u v : Value} (h : detR c = some u) (hv : CVal Φ L c v) : v = u := by
  by_cases htup : ∃ cs, c = .tup cs
  · obtain ⟨cs, rfl⟩ := htup
    cases hv with
    | tup _ vs h1 h2 =>
      simp only [detR, Option.map_eq_some_iff] at h
      obtain ⟨l, hl, rfl⟩ := h
      congr 1
      apply Array.toList_inj.1
      have key : ∀ {cs : List AV} {l us : List Value}, cs.mapM detC = some l → us.length = cs.length → (∀ (i : Nat) c v, cs[i]? = some c → us[i]? = some v → CVal Φ L c v) → us = l := by
        intro cs
        induction cs with
        | nil => intro l us h1 h2 h3; simp at h1 h2; subst h1; exact h2
        | cons c cs ih =>
          intro l us h1 h2 h3
          cases us with
          | nil => simp at h2
          | cons u us =>
            simp only [List.mapM_cons, Option.bind_eq_bind, Option.pure_def] at h1
            cases hc : detC c with
            | none => simp [hc] at h1
            | some x =>
              cases hr : cs.mapM detC with
              | none => simp [hc, hr] at h1
              | some rest =>
                simp [hc, hr] at h1
                subst h1
                have e1 := detC_ok hc (h3 0 c u rfl rfl)
                have e2 := ih hr (by simpa using h2) (fun i c v hc hv => h3 (i + 1) c v (by simpa using hc) (by simpa using hv))
                rw [e1, e2]
      simpa using key hl (by simpa using h1) (fun i c v hc hv => h2 i c v hc (by simpa using hv))
  · refine detC_ok (Φ := Φ) (L := L) ?_ hv
    unfold detR at h
    split at h
    · exact absurd ⟨_, rfl⟩ htup
    · exact h

/-- The function that a word calls, and its captured words. -/
def calleeOf (ev : Operand → AV) (c : Call) : Option (FuncId × List AV) :=
  match c.callee with
  | .value x => match (sv (ev x)).2 with
    | .fn f caps => some (f, caps)
    | _ => none
  | _ => none

theorem execOp_call {ρ : Operand → Value} {o : Oper} {c : Call} (ho : o.op = .call c) {x : Operand} (hc : c.callee = .value x) {f : FuncId} {us : Array Value} (hx : ρ x = .func (.func f) #[] us) (hcall : callable P f = true) (w : World) :
    (execOp ρ o).run P w = .ok (.enter f (c.args.map ρ ++ us)) w := by
  unfold callable at hcall
  cases hf : P.funcs[f]? with
  | none => rw [hf] at hcall; cases hcall
  | some fn =>
    rw [hf] at hcall
    simp only [Bool.and_eq_true, bne_iff_ne, ne_eq] at hcall
    obtain ⟨h1, h2⟩ := hcall
    have h1' : (fn.name == "runtime.NumGoroutine") = false := by simpa using h1
    have h2' : ¬ fn.body = none := by cases hb : fn.body <;> simp_all
    simp [execOp, ho, resolve, hc, hx, Deferred.ofValue, invoke, callFunc, hf, h1']
    rw [if_neg h1, if_neg h2']
end
end Go.Proofs.Ythojapklndjidaa
