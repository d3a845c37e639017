/- Calls that write what they are handed. -/
import Derived.Test.YthojapklndjidaaSy13
namespace Go.Proofs.Ythojapklndjidaa
open Go Go.RowKit
set_option linter.unusedVariables false
set_option linter.all false

section
variable {P : Program} {C : Ctx} {Φ : Nat → Option Obj} {L : Locs} {H : List AObj} {w : World}

/-! ### New names -/

def idx : List Nat → Nat → Option Nat
  | [], _ => none
  | x :: xs, j => if x = j then some 0 else match idx xs j with
    | some i => some (i + 1)
    | none => none
theorem idx_get : ∀ {ps : List Nat} {j i : Nat}, idx ps j = some i → ps[i]? = some j
  | [], j, i, h => by simp [idx] at h
  | x :: xs, j, i, h => by
    simp only [idx] at h
    split at h
    · rename_i he; simp only [Option.some.injEq] at h; subst h; subst he; rfl
    · split at h
      · rename_i k hk
        simp only [Option.some.injEq] at h; subst h
        simpa using idx_get hk
      · cases h

def mapC (g : Nat → Option Nat) : AV → AV
  | .osl j n => match g j with
    | some i => .osl i n
    | none => .any
  | .ptr j o => match g j with
    | some i => .ptr i o
    | none => .any
  | .optr j s k o => match g j with
    | some i => .optr i s k o
    | none => .any
  | .omap j => match g j with
    | some i => .omap i
    | none => .any
  | .bool b => .bool b
  | .int k n => .int k n
  | .str s => .str s
  | .sl T xs => .sl T xs
  | .nilsl => .nilsl
  | .eptr T xs i o => .eptr T xs i o
  | .nilp => .nilp
  | .nilfn => .nilfn
  | .nili => .nili
  | _ => .any
def mapV (g : Nat → Option Nat) : AV → AV
  | .agg cs => .agg (cs.map (mapC g))
  | c => mapC g c
def mapR (g : Nat → Option Nat) : AV → AV
  | .tup cs => .tup (cs.map (mapV g))
  | c => mapV g c
def mapO (g : Nat → Option Nat) : AObj → AObj
  | .cells t cs => .cells t (cs.map (mapC g))
  | .ope d e xs i ws => .ope d e xs i (ws.map (mapC g))
  | o => o

def Nms (g : Nat → Option Nat) (L L' : Locs) : Prop := ∀ j i l, g j = some i → L[j]? = some l → L'[i]? = some l

theorem mapC_ok {g : Nat → Option Nat} {L' : Locs} (hg : Nms g L L') {c : AV} {v : Value} (h : CVal Φ L c v) : CVal Φ L' (mapC g c) v := by
  unfold mapC
  split
  · split
    · rename_i hi
      cases h with
      | osl _ _ b cap hl h1 h2 => exact .osl _ _ b cap (hg _ _ _ hi hl) h1 h2
      | oslnil _ _ hl h1 => exact .oslnil _ _ (hg _ _ _ hi hl) h1
    · exact .any _
  · split
    · rename_i hi
      cases h with | ptr _ _ b cap hl => exact .ptr _ _ b cap (hg _ _ _ hi hl)
    · exact .any _
  · split
    · rename_i hi
      cases h with | optr _ _ _ _ b cap hl => exact .optr _ _ _ _ b cap (hg _ _ _ hi hl)
    · exact .any _
  · split
    · rename_i hi
      cases h with | omap _ b cap hl => exact .omap _ b cap (hg _ _ _ hi hl)
    · exact .any _
  · cases h; exact .bool _
  · cases h; exact .int _ _ ‹_›
  · cases h; exact .str _ ‹_›
  · cases h; exact .sl _ _ _ ‹_›
  · cases h; exact .nilsl
  · cases h; exact .eptr _ _ _ _ _ _ _ ‹_› ‹_›
  · cases h; exact .nilp
  · cases h; exact .nilfn
  · cases h; exact .nili
  · exact .any _
theorem mapV_ok {g : Nat → Option Nat} {L' : Locs} (hg : Nms g L L') {c : AV} {v : Value} (h : CVal Φ L c v) : CVal Φ L' (mapV g c) v := by
  by_cases hagg : ∃ cs, c = .agg cs
  · obtain ⟨cs, rfl⟩ := hagg
    cases h with
    | agg _ vs h1 h2 h3 =>
      refine .agg _ vs (by simpa using h1) h2 fun i c v hc hv => ?_
      rw [List.getElem?_map] at hc
      cases hci : cs[i]? with
      | none => rw [hci] at hc; simp at hc
      | some x => rw [hci] at hc; simp at hc; subst hc; exact mapC_ok hg (h3 i x v hci hv)
  · have : mapV g c = mapC g c := by unfold mapV; split; exact absurd ⟨_, rfl⟩ hagg; rfl
    rw [this]; exact mapC_ok hg h
theorem mapR_ok {g : Nat → Option Nat} {L' : Locs} (hg : Nms g L L') {c : AV} {v : Value} (h : CVal Φ L c v) : CVal Φ L' (mapR g c) v := by
  by_cases hagg : ∃ cs, c = .tup cs
  · obtain ⟨cs, rfl⟩ := hagg
    cases h with
    | tup _ vs h1 h3 =>
      refine .tup _ vs (by simpa using h1) fun i c v hc hv => ?_
      rw [List.getElem?_map] at hc
      cases hci : cs[i]? with
      | none => rw [hci] at hc; simp at hc
      | some x => rw [hci] at hc; simp at hc; subst hc; exact mapV_ok hg (h3 i x v hci hv)
  · have : mapR g c = mapV g c := by unfold mapR; split; exact absurd ⟨_, rfl⟩ hagg; rfl
    rw [this]; exact mapV_ok hg h
theorem mapO_ok {g : Nat → Option Nat} {L' : Locs} (hg : Nms g L L') {l : Option (Nat × Nat)} {o : AObj} (h : ObjOk Φ L w l o) : ObjOk Φ L' w l (mapO g o) := by
  cases o with
  | cells t cs =>
    obtain ⟨b, cap, vs, rfl, h1, h2⟩ := h
    refine ⟨b, cap, vs, rfl, h1, by simpa using h2.1, fun i c v hc hv => ?_⟩
    rw [List.getElem?_map] at hc
    cases hci : cs[i]? with
    | none => rw [hci] at hc; simp at hc
    | some x => rw [hci] at hc; simp at hc; subst hc; exact ⟨(h2.2 i x v hci hv).1, mapC_ok hg (h2.2 i x v hci hv).2⟩
  | dead => trivial
  | arr T e xs => exact h
  | frz T xs => exact h
  | map K V xs => exact h
  | deep d e xs => exact h
  | ope d e xs i ws => exact h
theorem Dp.mapO {g : Nat → Option Nat} {L' : Locs} (hg : Nms g L L') {l : Option (Nat × Nat)} {F : List Nat} {o : AObj} (h : Dp Φ L w l F o) : Dp Φ L' w l F (mapO g o) := by
  cases o with
  | ope d e xs i ws =>
    obtain ⟨c1, c2, c3, F1, F2, hi, h1, h2, h3, h4, h5, hF⟩ := h
    refine ⟨c1, c2, c3, F1, F2, hi, h1, h2, ⟨by simpa using h3.1, fun j c v hc hv => ?_⟩, by simpa using h4, h5, hF⟩
    rw [List.getElem?_map] at hc
    cases hcj : ws[j]? with
    | none => rw [hcj] at hc; simp at hc
    | some x => rw [hcj] at hc; simp at hc; subst hc; exact ⟨(h3.2 j x v hcj hv).1, mapC_ok hg (h3.2 j x v hcj hv).2⟩
  | _ => exact h

/-- Some of the names, under new ones. -/
theorem Deep.sel {C' : Ctx} {F : Nat → List Nat} (hF : ∀ (γ : Nat) o, H[γ]? = some o → o.live = true → InD C Φ L H w F γ o) {H' : List AObj} {L' : Locs} (ρ : Nat → Nat)
    (hget : ∀ (i : Nat) o, H'[i]? = some o → o.live = true → ∃ o', H[ρ i]? = some o' ∧ o'.live = true ∧ L'[i]? = L[ρ i]? ∧ ∀ l G, Dp Φ L w l G o' → Dp Φ L' w l G o)
    (hinj : ∀ (i j : Nat) o o', H'[i]? = some o → H'[j]? = some o' → ρ i = ρ j → i = j)
    (hold : ∀ (i : Nat) o, H'[i]? = some o → o.live = true → ∀ b ∈ F (ρ i), C'.w0.heap.size ≤ b ∨ b ∈ C'.W) : Deep C' Φ L' H' w := by
  refine ⟨fun i => F (ρ i), fun i o ho hl => ?_⟩
  obtain ⟨o', h1, h2, h3, h4⟩ := hget i o ho hl
  have k := hF (ρ i) o' h1 h2
  refine ⟨by obtain ⟨l, a1, a2⟩ := k.is; exact ⟨l, by rw [h3, a1], h4 l _ a2⟩, k.nd, k.lt, k.fr, hold i o ho hl, fun b hb δ x cap hx hlx e => ?_, fun δ x hne hx hlx b hb => ?_⟩
  · obtain ⟨x', b1, b2, b3, _⟩ := hget δ x hx hlx
    rw [b3] at e
    exact k.hd b hb (ρ δ) x' cap b1 b2 e
  · obtain ⟨x', b1, b2, b3, _⟩ := hget δ x hx hlx
    exact k.dj (ρ δ) x' (fun e => hne (hinj δ i x o hx ho e)) b1 b2 b hb

theorem mapO_live {g : Nat → Option Nat} (o : AObj) : (mapO g o).live = o.live := by cases o <;> rfl

def putAll : List AObj → List Nat → List AObj → List AObj
  | H, p :: ps, o :: os => putAll (H.set p o) ps os
  | H, _, _ => H

theorem putAll_length : ∀ {ps : List Nat} {os H : List AObj}, (putAll H ps os).length = H.length
  | [], _, _ => by unfold putAll; rfl
  | _ :: _, [], _ => by unfold putAll; rfl
  | p :: ps, o :: os, H => by rw [putAll, putAll_length, List.length_set]
theorem putAll_other : ∀ {ps : List Nat} {os H : List AObj} {γ : Nat}, γ ∉ ps → (putAll H ps os)[γ]? = H[γ]?
  | [], _, _, _, _ => by unfold putAll; rfl
  | _ :: _, [], _, _, _ => by unfold putAll; rfl
  | p :: ps, o :: os, H, γ, h => by
    simp only [List.mem_cons, not_or] at h
    rw [putAll, putAll_other h.2, List.getElem?_set_ne (fun e => h.1 e.symm)]
def nodupH : List Nat → Bool
  | [] => true
  | x :: xs => !xs.contains x && nodupH xs
theorem putAll_at : ∀ {ps : List Nat} {os H : List AObj} {i γ : Nat}, nodupH ps = true → ps[i]? = some γ → γ < H.length → i < os.length → (putAll H ps os)[γ]? = os[i]?
  | [], _, _, _, _, _, h, _, _ => by simp at h
  | _ :: _, [], _, _, _, _, _, _, h => by simp at h
  | p :: ps, o :: os, H, i, γ, hn, h, hl, hi => by
    simp only [nodupH, Bool.and_eq_true, Bool.not_eq_true'] at hn
    have hnp : p ∉ ps := by have := hn.1; simpa using this
    cases i with
    | zero =>
      simp at h; subst h
      rw [putAll, putAll_other hnp, List.getElem?_set_self hl]; rfl
    | succ i =>
      rw [putAll, putAll_at hn.2 (by simpa using h) (by simpa using hl) (by simpa using hi)]; rfl
theorem nodupH_ok : ∀ {xs : List Nat}, nodupH xs = true → ∀ (i j : Nat) x, xs[i]? = some x → xs[j]? = some x → i = j
  | [], _, i, j, x, hi, _ => by simp at hi
  | y :: xs, h, i, j, x, hi, hj => by
    simp only [nodupH, Bool.and_eq_true, Bool.not_eq_true'] at h
    have hn : y ∉ xs := by have := h.1; simpa using this
    cases i with
    | zero =>
      simp at hi; subst hi
      cases j with
      | zero => rfl
      | succ j => exact absurd (List.mem_of_getElem? (by simpa using hj)) hn
    | succ i =>
      cases j with
      | zero => simp at hj; subst hj; exact absurd (List.mem_of_getElem? (by simpa using hi)) hn
      | succ j => have := nodupH_ok h.2 i j x (by simpa using hi) (by simpa using hj); omega

def bwd (ps : List Nat) (n : Nat) (i : Nat) : Option Nat := match ps[i]? with
  | some j => some j
  | none => some (n + (i - ps.length))

def subL (L : Locs) (ps : List Nat) : Locs := ps.map fun j => (L[j]?).getD none
def subH (H : List AObj) (ps : List Nat) : List AObj := ps.map fun j => mapO (idx ps) ((H[j]?).getD .dead)
def subW (L : Locs) (H : List AObj) (ps : List Nat) : List Nat := ps.filterMap fun j => match H[j]? with
  | some o => if o.live then match L[j]? with
    | some (some (g, _)) => some g
    | _ => none
    else none
  | none => none
theorem subW_mem {ps : List Nat} {g : Nat} : g ∈ subW L H ps ↔ ∃ j ∈ ps, ∃ o cap, H[j]? = some o ∧ o.live = true ∧ L[j]? = some (some (g, cap)) := by
  unfold subW
  rw [List.mem_filterMap]
  constructor
  · rintro ⟨j, hj, h⟩
    refine ⟨j, hj, ?_⟩
    split at h
    · rename_i o ho
      split at h
      · rename_i hl
        split at h
        · rename_i g' cap hL
          simp only [Option.some.injEq] at h; subst h
          exact ⟨o, cap, ho, hl, hL⟩
        · cases h
      · cases h
    · cases h
  · rintro ⟨j, hj, o, cap, ho, hl, hL⟩
    exact ⟨j, hj, by simp only [ho, hL]; rw [if_pos hl]⟩

theorem Nms_fwd {ps : List Nat} : Nms (idx ps) L (subL L ps) := fun j i l hi hl => by
  unfold subL
  rw [List.getElem?_map, idx_get hi]; simp [hl]

def subF (H : List AObj) (F : Nat → List Nat) (ps : List Nat) : List Nat := ps.flatMap fun j => match H[j]? with
  | some o => if o.live then F j else []
  | none => []
theorem subF_mem {F : Nat → List Nat} {ps : List Nat} {b : Nat} : b ∈ subF H F ps ↔ ∃ j ∈ ps, ∃ o, H[j]? = some o ∧ o.live = true ∧ b ∈ F j := by
  unfold subF
  rw [List.mem_flatMap]
  constructor
  · rintro ⟨j, hj, h⟩
    refine ⟨j, hj, ?_⟩
    split at h
    · rename_i o ho
      split at h
      · rename_i hl; exact ⟨o, ho, hl, h⟩
      · cases h
    · cases h
  · rintro ⟨j, hj, o, ho, hl, h⟩
    exact ⟨j, hj, by simp only [ho]; rw [if_pos hl]; exact h⟩

theorem Inv.handed (h : Inv C Φ L H w) {F : Nat → List Nat} (hF : ∀ (γ : Nat) o, H[γ]? = some o → o.live = true → InD C Φ L H w F γ o) {ps : List Nat} (hn : nodupH ps = true) (hb : ∀ j ∈ ps, j < H.length) : Inv ⟨w, Φ, subW L H ps ++ subF H F ps, subL L ps⟩ Φ (subL L ps) (subH H ps) w := by
  have hget : ∀ (i : Nat) o, (subH H ps)[i]? = some o → ∃ j o', ps[i]? = some j ∧ H[j]? = some o' ∧ o = mapO (idx ps) o' ∧ (subL L ps)[i]? = L[j]? := fun i o ho => by
    unfold subH at ho
    rw [List.getElem?_map] at ho
    cases hp : ps[i]? with
    | none => rw [hp] at ho; simp at ho
    | some j =>
      rw [hp] at ho; simp at ho
      have hj := hb j (List.mem_of_getElem? hp)
      refine ⟨j, _, rfl, List.getElem?_eq_getElem hj, by rw [← ho, List.getElem?_eq_getElem hj]; rfl, ?_⟩
      unfold subL
      rw [List.getElem?_map, hp]
      obtain ⟨l, hl, _⟩ := h.obj j _ (List.getElem?_eq_getElem hj)
      simp [hl]
  refine ⟨?_, Deep.sel hF (fun i => (ps[i]?).getD 0) (fun i o ho hlv => ?_) (fun i k o o' ho ho' e => ?_) fun i o ho hlv b hb => ?_⟩
  rotate_left
  · obtain ⟨j, o', hp, hj, rfl, hl⟩ := hget i o ho
    rw [mapO_live] at hlv
    simp only [hp, Option.getD_some]
    exact ⟨o', hj, hlv, hl, fun l G hd => hd.mapO Nms_fwd⟩
  · obtain ⟨j, x, hp, hj, rfl, hl⟩ := hget i o ho
    obtain ⟨j', x', hp', hj', rfl, hl'⟩ := hget k o' ho'
    simp only [hp, hp', Option.getD_some] at e
    exact nodupH_ok hn i k j hp (by rw [hp', e])
  · obtain ⟨j, o', hp, hj, rfl, hl⟩ := hget i o ho
    rw [mapO_live] at hlv
    simp only [hp, Option.getD_some] at hb
    exact .inr (List.mem_append.2 (.inr (subF_mem.2 ⟨j, List.mem_of_getElem? hp, o', hj, hlv, hb⟩)))
  constructor
  · simp [subL, subH]
  · exact h.frz
  · exact More.refl _
  · exact h.glob
  · exact fun b o hb => .inl hb
  · rfl
  · rfl
  · rfl
  · exact Nat.le_refl _
  · exact fun _ _ _ => rfl
  · intro i o ho
    obtain ⟨j, o', hp, hj, rfl, hl⟩ := hget i o ho
    obtain ⟨l, h1, h2⟩ := h.obj j o' hj
    exact ⟨l, by rw [hl, h1], mapO_ok Nms_fwd h2⟩
  · intro i o g cap ho hlv hlg
    obtain ⟨j, o', hp, hj, rfl, hl⟩ := hget i o ho
    rw [mapO_live] at hlv
    rw [hl] at hlg
    exact ⟨(h.own j o' g cap hj hlv hlg).1, .inr (List.mem_append.2 (.inl (subW_mem.2 ⟨j, List.mem_of_getElem? hp, o', cap, hj, hlv, hlg⟩)))⟩
  · intro i k o o' g cap cap' hne ho hlv ho' hlv' e1 e2
    obtain ⟨j, x, hp, hj, rfl, hl⟩ := hget i o ho
    obtain ⟨j', x', hp', hj', rfl, hl'⟩ := hget k o' ho'
    rw [mapO_live] at hlv hlv'
    rw [hl] at e1; rw [hl'] at e2
    exact h.inj j j' x x' g cap cap' (fun e => hne (nodupH_ok hn i k j hp (by rw [hp', e]))) hj hlv hj' hlv' e1 e2
  · exact fun i x hx => hx

def backH (H : List AObj) (ps : List Nat) (H1 : List AObj) : List AObj :=
  putAll H ps ((H1.take ps.length).map (mapO (bwd ps H.length))) ++ (H1.drop ps.length).map (mapO (bwd ps H.length))

theorem Inv.back (h : Inv C Φ L H w) {F : Nat → List Nat} (hF : ∀ (γ : Nat) o, H[γ]? = some o → o.live = true → InD C Φ L H w F γ o) {ps : List Nat} (hn : nodupH ps = true) (hb : ∀ j ∈ ps, j < H.length) {Φ' : Nat → Option Obj} {L1 : Locs} {H1 : List AObj} {w' : World} (hm : ps.length ≤ H1.length)
    (k : Inv ⟨w, Φ, subW L H ps ++ subF H F ps, subL L ps⟩ Φ' L1 H1 w') : Inv C Φ' (L ++ L1.drop ps.length) (backH H ps H1) w' ∧ Nms (bwd ps H.length) L1 (L ++ L1.drop ps.length) := by
  have hpl : ∀ (i j : Nat), ps[i]? = some j → L1[i]? = L[j]? := fun i j hp => by
    have hj := hb j (List.mem_of_getElem? hp)
    obtain ⟨l, hl, _⟩ := h.obj j _ (List.getElem?_eq_getElem hj)
    rw [hl]
    refine k.pre i l ?_
    show (subL L ps)[i]? = some l
    unfold subL
    rw [List.getElem?_map, hp]; simp [hl]
  have hN : Nms (bwd ps H.length) L1 (L ++ L1.drop ps.length) := fun i j l hbi hl => by
    unfold bwd at hbi
    split at hbi
    · rename_i j' hp
      simp only [Option.some.injEq] at hbi; subst hbi
      rw [hpl i j' hp] at hl
      rw [List.getElem?_append_left (List.getElem?_eq_some_iff.1 hl).1]; exact hl
    · rename_i hp
      simp only [Option.some.injEq] at hbi; subst hbi
      have hge : ps.length ≤ i := by simpa using hp
      rw [List.getElem?_append_right (by rw [h.len]; omega), h.len, List.getElem?_drop]
      rw [show ps.length + (H.length + (i - ps.length) - H.length) = i by omega]; exact hl
  refine ⟨?_, hN⟩
  have hkl := k.len
  -- what stands at a name
  have cls : ∀ (γ : Nat) o, (backH H ps H1)[γ]? = some o → (γ ∉ ps ∧ H[γ]? = some o ∧ (L ++ L1.drop ps.length)[γ]? = L[γ]?) ∨ ∃ i o1, H1[i]? = some o1 ∧ o = mapO (bwd ps H.length) o1 ∧ bwd ps H.length i = some γ ∧ (L ++ L1.drop ps.length)[γ]? = L1[i]? := fun γ o ho => by
    unfold backH at ho
    by_cases hlt : γ < H.length
    · rw [List.getElem?_append_left (by rw [putAll_length]; exact hlt)] at ho
      have hLl : (L ++ L1.drop ps.length)[γ]? = L[γ]? := List.getElem?_append_left (by rw [h.len]; exact hlt)
      by_cases hmem : γ ∈ ps
      · right
        obtain ⟨i, hi⟩ := List.getElem?_of_mem hmem
        have hil : i < ps.length := (List.getElem?_eq_some_iff.1 hi).1
        rw [putAll_at hn hi hlt (by simp; omega), List.getElem?_map, List.getElem?_take_of_lt hil] at ho
        cases h1 : H1[i]? with
        | none => rw [h1] at ho; simp at ho
        | some o1 =>
          rw [h1] at ho; simp at ho
          exact ⟨i, o1, h1, ho.symm, by simp [bwd, hi], by rw [hLl, hpl i γ hi]⟩
      · left
        rw [putAll_other hmem] at ho
        exact ⟨hmem, ho, hLl⟩
    · right
      rw [List.getElem?_append_right (by rw [putAll_length]; omega), putAll_length, List.getElem?_map, List.getElem?_drop] at ho
      cases h1 : H1[ps.length + (γ - H.length)]? with
      | none => rw [h1] at ho; simp at ho
      | some o1 =>
        rw [h1] at ho; simp at ho
        refine ⟨_, o1, h1, ho.symm, ?_, ?_⟩
        · have : ps[ps.length + (γ - H.length)]? = none := by simp
          simp only [bwd, this, Option.some.injEq]; omega
        · rw [List.getElem?_append_right (by rw [h.len]; omega), h.len, List.getElem?_drop]
  have notW : ∀ (γ : Nat) o g cap, γ ∉ ps → H[γ]? = some o → o.live = true → L[γ]? = some (some (g, cap)) → g ∉ subW L H ps ++ subF H F ps := fun γ o g cap hγ ho hlv hl hw => by
    rcases List.mem_append.1 hw with hw | hw
    · obtain ⟨j, hj, o', cap', ho', hlv', hl'⟩ := subW_mem.1 hw
      exact h.inj γ j o o' g cap cap' (fun e => hγ (by rw [e]; exact hj)) ho hlv ho' hlv' hl hl'
    · obtain ⟨j, hj, o', ho', hlv', hm⟩ := subF_mem.1 hw
      exact (hF j o' ho' hlv').hd g hm γ o cap ho hlv hl
  have notWF : ∀ (γ : Nat) o, γ ∉ ps → H[γ]? = some o → o.live = true → ∀ b ∈ F γ, b ∉ subW L H ps ++ subF H F ps := fun γ o hγ ho hlv b hb hw => by
    rcases List.mem_append.1 hw with hw | hw
    · obtain ⟨j, hj, o', cap', ho', hlv', hl'⟩ := subW_mem.1 hw
      exact (hF γ o ho hlv).hd b hb j o' cap' ho' hlv' hl'
    · obtain ⟨j, hj, o', ho', hlv', hm⟩ := subF_mem.1 hw
      exact (hF γ o ho hlv).dj j o' (fun e => hγ (by rw [← e]; exact hj)) ho' hlv' b hb hm
  have Wok : ∀ g ∈ subW L H ps ++ subF H F ps, C.w0.heap.size ≤ g ∨ g ∈ C.W := fun g hg => by
    rcases List.mem_append.1 hg with hg | hg
    · obtain ⟨j, hj, o', cap', ho', hlv', hl'⟩ := subW_mem.1 hg
      exact (h.own j o' g cap' ho' hlv' hl').2
    · obtain ⟨j, hj, o', ho', hlv', hm⟩ := subF_mem.1 hg
      exact (hF j o' ho' hlv').old g hm
  refine ⟨?_, ?_⟩
  rotate_left
  · obtain ⟨F1, hF1⟩ := k.deep
    have inv1 : ∀ (i γ : Nat), bwd ps H.length i = some γ → ((ps[i]? = some γ ∧ i < ps.length) ∨ (ps.length ≤ i ∧ γ = H.length + (i - ps.length))) := fun i γ hbi => by
      unfold bwd at hbi
      split at hbi
      · rename_i j' hp
        simp only [Option.some.injEq] at hbi; subst hbi
        exact .inl ⟨hp, (List.getElem?_eq_some_iff.1 hp).1⟩
      · rename_i hp
        simp only [Option.some.injEq] at hbi
        exact .inr ⟨by simpa using hp, hbi.symm⟩
    -- the number in the callee's list of a name of the caller's
    have num : ∃ ν : Nat → Nat, ∀ (i γ : Nat), bwd ps H.length i = some γ → (γ ∈ ps ∨ H.length ≤ γ) ∧ ν γ = i := by
      refine ⟨fun γ => if γ < H.length then (idx ps γ).getD 0 else ps.length + (γ - H.length), fun i γ hbi => ?_⟩
      rcases inv1 i γ hbi with ⟨hp, hi⟩ | ⟨hi, rfl⟩
      · have hmem := List.mem_of_getElem? hp
        refine ⟨.inl hmem, ?_⟩
        simp only [if_pos (hb γ hmem)]
        have hex : ∃ j, idx ps γ = some j := by
          have : ∀ {ps : List Nat}, γ ∈ ps → ∃ j, idx ps γ = some j := by
            intro ps
            induction ps with
            | nil => intro h; cases h
            | cons x xs ih =>
              intro h
              by_cases hx : x = γ
              · exact ⟨0, by simp [idx, hx]⟩
              · obtain ⟨j, hj⟩ := ih (by rcases List.mem_cons.1 h with e | e; exact absurd e.symm hx; exact e)
                exact ⟨j + 1, by simp [idx, hx, hj]⟩
          exact this hmem
        obtain ⟨j, hj⟩ := hex
        rw [hj]
        exact nodupH_ok hn j i γ (idx_get hj) hp
      · refine ⟨.inr (by omega), ?_⟩
        simp only [if_neg (by omega : ¬ H.length + (i - ps.length) < H.length)]
        omega
    obtain ⟨ν, hν⟩ := num
    have oldlt : ∀ (γ : Nat) o, γ ∉ ps → H[γ]? = some o → ¬ (γ ∈ ps ∨ H.length ≤ γ) := fun γ o hγ ho e => by
      rcases e with e | e
      · exact hγ e
      · have := (List.getElem?_eq_some_iff.1 ho).1; omega
    refine ⟨fun γ => if γ ∈ ps ∨ H.length ≤ γ then F1 (ν γ) else F γ, fun γ o ho hlv => ?_⟩
    have newF1 : ∀ (i : Nat) o1, H1[i]? = some o1 → o1.live = true → ∀ b ∈ F1 i, w.heap.size ≤ b ∨ b ∈ subW L H ps ++ subF H F ps := fun i o1 h1 hl1 b hb => (hF1 i o1 h1 hl1).old b hb
    rcases cls γ o ho with ⟨hγ, h1, hL⟩ | ⟨i, o1, h1, rfl, hbi, hL⟩
    · have kk := hF γ o h1 hlv
      have e0 := oldlt γ o hγ h1
      refine ⟨?_, ?_, ?_, ?_, ?_, ?_, ?_⟩ <;> simp only [if_neg e0]
      · obtain ⟨l, a1, a2⟩ := kk.is
        refine ⟨l, by rw [hL, a1], (a2.keep (fun b hb' => k.keep b (kk.lt b hb') (notWF γ o hγ h1 hlv b hb')) fun g cap hg hlt => k.keep g hlt ?_).more k.base fun i x hx => by rw [List.getElem?_append_left (List.getElem?_eq_some_iff.1 hx).1]; exact hx⟩
        subst hg
        exact notW γ o g cap hγ h1 hlv a1
      · exact kk.nd
      · exact fun b hb' => Nat.lt_of_lt_of_le (kk.lt b hb') k.size
      · intro b hb'
        cases hΦ : Φ' b with
        | none => rfl
        | some x =>
          rcases k.fresh b x hΦ with h4 | h4 | h4
          · have h4 : Φ b = some x := h4
            rw [kk.fr b hb'] at h4; cases h4
          · have h4' : w.heap.size ≤ b := h4
            have := kk.lt b hb'; omega
          · exact absurd h4 (notWF γ o hγ h1 hlv b hb')
      · exact kk.old
      · intro b hb' δ o' cap ho' hlv' e
        rcases cls δ o' ho' with ⟨hδ, h2, hL2⟩ | ⟨j, o2, h2, rfl, hbj, hL2⟩
        · rw [hL2] at e; exact kk.hd b hb' δ o' cap h2 hlv' e
        · rw [mapO_live] at hlv'; rw [hL2] at e
          rcases (k.own j o2 b cap h2 hlv' e).2 with h3 | h3
          · have h3' : w.heap.size ≤ b := h3
            have := kk.lt b hb'; omega
          · exact notWF γ o hγ h1 hlv b hb' h3
      · intro δ o' hne ho' hlv' b hb' hb2
        rcases cls δ o' ho' with ⟨hδ, h2, hL2⟩ | ⟨j, o2, h2, rfl, hbj, hL2⟩
        · simp only [if_neg (oldlt δ o' hδ h2)] at hb2
          exact kk.dj δ o' hne h2 hlv' b hb' hb2
        · rw [mapO_live] at hlv'
          obtain ⟨e1, e2⟩ := hν j δ hbj
          simp only [if_pos e1, e2] at hb2
          rcases newF1 j o2 h2 hlv' b hb2 with h3 | h3
          · have := kk.lt b hb'; omega
          · exact notWF γ o hγ h1 hlv b hb' h3
    · rw [mapO_live] at hlv
      have kk := hF1 i o1 h1 hlv
      obtain ⟨e1, e2⟩ := hν i γ hbi
      refine ⟨?_, ?_, ?_, ?_, ?_, ?_, ?_⟩ <;> simp only [if_pos e1, e2]
      · obtain ⟨l, a1, a2⟩ := kk.is
        exact ⟨l, by rw [hL, a1], a2.mapO hN⟩
      · exact kk.nd
      · exact kk.lt
      · exact kk.fr
      · intro b hb'
        rcases kk.old b hb' with h3 | h3
        · exact .inl (Nat.le_trans h.size h3)
        · exact Wok b h3
      · intro b hb' δ o' cap ho' hlv' e
        rcases cls δ o' ho' with ⟨hδ, h2, hL2⟩ | ⟨j, o2, h2, rfl, hbj, hL2⟩
        · rw [hL2] at e
          rcases newF1 i o1 h1 hlv b hb' with h3 | h3
          · have := h.lt h2 hlv' e; omega
          · exact notW δ o' b cap hδ h2 hlv' e h3
        · rw [mapO_live] at hlv'; rw [hL2] at e
          exact kk.hd b hb' j o2 cap h2 hlv' e
      · intro δ o' hne ho' hlv' b hb' hb2
        rcases cls δ o' ho' with ⟨hδ, h2, hL2⟩ | ⟨j, o2, h2, rfl, hbj, hL2⟩
        · simp only [if_neg (oldlt δ o' hδ h2)] at hb2
          rcases newF1 i o1 h1 hlv b hb' with h3 | h3
          · have := (hF δ o' h2 hlv').lt b hb2; omega
          · exact notWF δ o' hδ h2 hlv' b hb2 h3
        · rw [mapO_live] at hlv'
          obtain ⟨e3, e4⟩ := hν j δ hbj
          simp only [if_pos e3, e4] at hb2
          exact kk.dj j o2 (fun e => hne (by rw [e, hbi] at hbj; simpa using hbj.symm)) h2 hlv' b hb' hb2
  constructor
  · unfold backH
    rw [List.length_append, List.length_append, putAll_length, h.len, List.length_map, List.length_drop, List.length_drop, hkl]
  · exact k.frz
  · exact h.base.trans k.base
  · exact k.glob
  · intro b o hb
    rcases k.fresh b o hb with h1 | h1 | h1
    · exact h.fresh b o h1
    · exact .inr (.inl (Nat.le_trans h.size h1))
    · exact .inr (Wok b h1)
  · exact k.os.trans h.os
  · exact k.tape.trans h.tape
  · exact k.output.trans h.output
  · exact Nat.le_trans h.size k.size
  · intro b hlt hW
    have hnw : b ∉ subW L H ps ++ subF H F ps := fun e => by rcases Wok b e with h1 | h1; omega; exact hW h1
    rw [k.keep b (Nat.lt_of_lt_of_le hlt h.size) hnw]; exact h.keep b hlt hW
  · intro γ o ho
    rcases cls γ o ho with ⟨hγ, h1, hL⟩ | ⟨i, o1, h1, rfl, hbi, hL⟩
    · obtain ⟨l, hl, hk⟩ := h.obj γ o h1
      refine ⟨l, by rw [hL, hl], ObjOk.more k.base (fun i x hx => by rw [List.getElem?_append_left (List.getElem?_eq_some_iff.1 hx).1]; exact hx) (hk.keep fun g cap hlv hlg hlt => k.keep g hlt ?_)⟩
      subst hlg
      exact notW γ o g cap hγ h1 hlv hl
    · obtain ⟨l, hl, hk⟩ := k.obj i o1 h1
      exact ⟨l, by rw [hL, hl], mapO_ok hN hk⟩
  · intro γ o g cap ho hlv hlg
    rcases cls γ o ho with ⟨hγ, h1, hL⟩ | ⟨i, o1, h1, rfl, hbi, hL⟩
    · rw [hL] at hlg
      obtain ⟨h2, h3⟩ := h.own γ o g cap h1 hlv hlg
      refine ⟨?_, h3⟩
      cases hΦ : Φ' g with
      | none => rfl
      | some x =>
        rcases k.fresh g x hΦ with h4 | h4 | h4
        · rw [show Φ g = some x from h4] at h2; cases h2
        · have := h.lt h1 hlv hlg
          have h4' : w.heap.size ≤ g := h4
          omega
        · exact absurd h4 (notW γ o g cap hγ h1 hlv hlg)
    · rw [mapO_live] at hlv
      rw [hL] at hlg
      obtain ⟨h2, h3⟩ := k.own i o1 g cap h1 hlv hlg
      refine ⟨h2, ?_⟩
      rcases h3 with h3 | h3
      · exact .inl (Nat.le_trans h.size h3)
      · exact Wok g h3
  · intro γ δ o o' g cap cap' hne ho hlv ho' hlv' e1 e2
    have mix : ∀ (γ : Nat) o cap (i : Nat) o1 cap', γ ∉ ps → H[γ]? = some o → o.live = true → L[γ]? = some (some (g, cap)) → H1[i]? = some o1 → o1.live = true → L1[i]? = some (some (g, cap')) → False := fun γ o cap i o1 cap' hγ h1 hlv hl h2 hlv2 hl2 => by
      rcases (k.own i o1 g cap' h2 hlv2 hl2).2 with h3 | h3
      · have := h.lt h1 hlv hl
        have h3' : w.heap.size ≤ g := h3
        omega
      · exact notW γ o g cap hγ h1 hlv hl h3
    rcases cls γ o ho with ⟨hγ, h1, hL⟩ | ⟨i, o1, h1, rfl, hbi, hL⟩ <;> rcases cls δ o' ho' with ⟨hδ, h1', hL'⟩ | ⟨i', o1', h1', rfl, hbi', hL'⟩
    · rw [hL] at e1; rw [hL'] at e2
      exact h.inj γ δ o o' g cap cap' hne h1 hlv h1' hlv' e1 e2
    · rw [mapO_live] at hlv'; rw [hL] at e1; rw [hL'] at e2
      exact mix γ o cap i' o1' cap' hγ h1 hlv e1 h1' hlv' e2
    · rw [mapO_live] at hlv; rw [hL] at e1; rw [hL'] at e2
      exact mix δ o' cap' i o1 cap hδ h1' hlv' e2 h1 hlv e1
    · rw [mapO_live] at hlv hlv'; rw [hL] at e1; rw [hL'] at e2
      exact k.inj i i' o1 o1' g cap cap' (fun e => hne (by rw [e, hbi'] at hbi; simpa using hbi.symm)) h1 hlv h1' hlv' e1 e2
  · exact fun i x hx => by have := h.pre i x hx; rw [List.getElem?_append_left (List.getElem?_eq_some_iff.1 this).1]; exact this

/-! ### Contracts -/

def HOk (P : Program) (f : FuncId) (args : List AV) (H0 : List AObj) (res : AV) (H1 : List AObj) : Prop :=
  ∀ (w : World) (Φ : Nat → Option Obj) (L : Locs) (W : List Nat) (vs : Array Value), Inv ⟨w, Φ, W, L⟩ Φ L H0 w → vs.size = args.length → (∀ (i : Nat) c v, args[i]? = some c → vs[i]? = some v → CVal Φ L c v) →
    Calls P f vs w fun e w' => ∃ v Φ' L', e = .returned v ∧ Inv ⟨w, Φ, W, L⟩ Φ' L' H1 w' ∧ CVal Φ' L' res v

structure HR where
  pre : Prop
  res : AV
  heap : List AObj

/-- Which arguments go by name (else they are let alone from now on), and what comes of the call. -/
abbrev HCtr := FuncId → Option (List Bool × (List AV → List AObj → Option HR))

def HCtrOk (P : Program) (Γ : HCtr) : Prop := ∀ f ms K, Γ f = some (ms, K) → ∀ args H0 r, K args H0 = some r → r.pre → HOk P f args H0 r.res r.heap

def solidV (H : List AObj) : AV → Option (Prop × AV × List AObj)
  | .agg cs => match solid H cs with
    | some (p, cs', H') => some (p, .agg cs', H')
    | none => none
  | c => solid1 H c

def solidM : List Bool → List AObj → List AV → Option (Prop × List AV × List AObj)
  | _, H, [] => some (True, [], H)
  | ms, H, c :: cs => match (if ms.headD false then some (True, c, H) else solidV H c) with
    | some (p, c', H') => match solidM ms.tail H' cs with
      | some (q, cs', H'') => some (p ∧ q, c' :: cs', H'')
      | none => none
    | none => none

def addN1 (ps : List Nat) : AV → List Nat
  | .osl j _ => if ps.contains j then ps else ps ++ [j]
  | .ptr j _ => if ps.contains j then ps else ps ++ [j]
  | .optr j _ _ _ => if ps.contains j then ps else ps ++ [j]
  | .omap j => if ps.contains j then ps else ps ++ [j]
  | _ => ps
def addN (ps : List Nat) : AV → List Nat
  | .agg cs => cs.foldl addN1 ps
  | c => addN1 ps c
def addNs : List Nat → List AV → List Nat
  | ps, [] => ps
  | ps, c :: cs => addNs (addN ps c) cs

def callHE (Γ : HCtr) (H : List AObj) (f : FuncId) (args : List AV) : Option ER :=
  match Γ f with
  | some (ms, K) => match solidM ms H args with
    | some (p, as, H') => match K (as.map (mapV (idx (addNs [] as)))) (subH H' (addNs [] as)) with
      | some r => if nodupH (addNs [] as) = true ∧ (addNs [] as).all (· < H'.length) = true ∧ (addNs [] as).length ≤ r.heap.length then
          some ⟨p ∧ r.pre, mapR (bwd (addNs [] as) H'.length) r.res, backH H' (addNs [] as) r.heap⟩ else none
      | none => none
    | none => none
  | none => none

theorem solidV_ok (h : Inv C Φ L H w) {c c' : AV} {p : Prop} {H' : List AObj} (hs : solidV H c = some (p, c', H')) (hp : p) : ∃ Φ', More Φ Φ' ∧ Inv C Φ' L H' w ∧ ∀ v, CVal Φ L c v → CVal Φ' L c' v := by
  unfold solidV at hs
  split at hs
  · rename_i cs
    split at hs
    · rename_i q cs' H2 h1
      simp only [Option.some.injEq, Prod.mk.injEq] at hs
      obtain ⟨rfl, rfl, rfl⟩ := hs
      obtain ⟨Φ', m, i, k⟩ := solid_ok h h1 hp
      refine ⟨Φ', m, i, fun v hv => ?_⟩
      obtain ⟨vs, rfl, h2⟩ : ∃ vs, v = .agg vs ∧ CVals Φ L cs vs.toList := by
        cases hv with
        | agg _ vs h1 h2 h3 => exact ⟨vs, rfl, CVals.of_agg (.agg _ _ h1 h2 h3)⟩
      have := packV_ok (k vs.toList h2)
      simpa using this
    · cases hs
  · exact solid1_ok h hs hp

theorem solidM_ok : ∀ {ms : List Bool} {cs cs' : List AV} {Φ : Nat → Option Obj} {H : List AObj} {p : Prop} {H' : List AObj}, Inv C Φ L H w → solidM ms H cs = some (p, cs', H') → p → ∃ Φ', More Φ Φ' ∧ Inv C Φ' L H' w ∧ cs'.length = cs.length ∧
    ∀ (vs : List Value), (∀ (i : Nat) c v, cs[i]? = some c → vs[i]? = some v → CVal Φ L c v) → ∀ (i : Nat) c v, cs'[i]? = some c → vs[i]? = some v → CVal Φ' L c v
  | ms, [], cs', Φ, H, p, H', h, hs, hp => by
    simp only [solidM, Option.some.injEq, Prod.mk.injEq] at hs
    obtain ⟨rfl, rfl, rfl⟩ := hs
    exact ⟨Φ, More.refl _, h, rfl, fun vs hv i c v hc => by simp at hc⟩
  | ms, c :: cs, cs', Φ, H, p, H', h, hs, hp => by
    simp only [solidM] at hs
    split at hs
    · rename_i p1 c1 H1 h1
      split at hs
      · rename_i q cs1 H2 h2
        simp only [Option.some.injEq, Prod.mk.injEq] at hs
        obtain ⟨rfl, rfl, rfl⟩ := hs
        obtain ⟨Φ1, m1, i1, k1⟩ : ∃ Φ', More Φ Φ' ∧ Inv C Φ' L H1 w ∧ ∀ v, CVal Φ L c v → CVal Φ' L c1 v := by
          split at h1
          · simp only [Option.some.injEq, Prod.mk.injEq] at h1
            obtain ⟨rfl, rfl, rfl⟩ := h1
            exact ⟨Φ, More.refl _, h, fun v hv => hv⟩
          · exact solidV_ok h h1 hp.1
        obtain ⟨Φ2, m2, i2, hl, k2⟩ := solidM_ok i1 h2 hp.2
        refine ⟨Φ2, m1.trans m2, i2, by simp [hl], fun vs hv i x v hx hvi => ?_⟩
        cases i with
        | zero =>
          simp only [List.getElem?_cons_zero, Option.some.injEq] at hx; subst hx
          exact (k1 v (hv 0 c v rfl hvi)).mono m2 fun _ _ h => h
        | succ i =>
          refine k2 (vs.drop 1) (fun j y u hy hu => (hv (j + 1) y u (by simpa using hy) (by rw [List.getElem?_drop] at hu; rwa [Nat.add_comm] at hu)).mono m1 fun _ _ h => h) i x v (by simpa using hx) (by rw [List.getElem?_drop, Nat.add_comm]; exact hvi)
      · cases hs
    · cases hs

theorem callHE_ok {Γ : HCtr} (hΓ : HCtrOk P Γ) (hI : Inv C Φ L H w) {f : FuncId} {args : List AV} {r : ER} (h : callHE Γ H f args = some r) (hp : r.pre) {vs : Array Value} (hsz : vs.size = args.length)
    (hv : ∀ (i : Nat) c v, args[i]? = some c → vs[i]? = some v → CVal Φ L c v) :
    Calls P f vs w fun e w' => ∃ v, e = .returned v ∧ EPost C Φ L r v w' := by
  unfold callHE at h
  split at h
  · rename_i ms K hf
    split at h
    · rename_i p as H' hs
      split at h
      · rename_i cr hK
        split at h
        · rename_i hc
          simp only [Option.some.injEq] at h; subst h
          obtain ⟨hn, hall, hlen⟩ := hc
          obtain ⟨hp1, hp2⟩ := hp
          obtain ⟨Φ1, m1, i1, hl, k1⟩ := solidM_ok hI hs hp1
          have hall' : ∀ j ∈ addNs [] as, j < H'.length := fun j hj => by simpa using List.all_eq_true.1 hall j hj
          obtain ⟨F, hF⟩ := i1.deep
          refine (hΓ f ms K hf _ _ cr hK hp2 w Φ1 _ _ vs (i1.handed hF hn hall') (by simpa [hl] using hsz) fun i c v hci hvi => ?_).mono fun e w' ⟨v, Φ', L', he, hI', hres⟩ => ⟨v, he, ?_⟩
          · rw [List.getElem?_map] at hci
            cases hai : as[i]? with
            | none => rw [hai] at hci; simp at hci
            | some x =>
              rw [hai] at hci; simp at hci; subst hci
              exact mapV_ok Nms_fwd (k1 vs.toList (fun i c v hc hv' => hv i c v hc (by simpa using hv')) i x v hai (by simpa using hvi))
          · obtain ⟨hb, hN⟩ := i1.back hF hn hall' hlen hI'
            exact ⟨Φ', _, m1.trans hI'.base, fun i x hx => by rw [List.getElem?_append_left (List.getElem?_eq_some_iff.1 hx).1]; exact hx, hb, mapR_ok hN hres⟩
        · cases h
      · cases h
    · cases h
  · cases h

/-- The names in the cells of what is named. -/
def addNo (q : List Nat) : Option AObj → List Nat
  | some (.cells _ cs) => cs.foldl addN1 q
  | _ => q
def closeN (H : List AObj) : Nat → List Nat → List Nat
  | 0, ps => ps
  | k + 1, ps => closeN H k (ps.foldl (fun q j => addNo q H[j]?) ps)
def namesY (H : List AObj) (as : List AV) : List Nat := closeN H 2 (addNs [] as)

/-- A call of a function that follows names in what it is handed. -/
def callYE (Γ : HCtr) (H : List AObj) (f : FuncId) (args : List AV) : Option ER :=
  match Γ f with
  | some (ms, K) => match solidM ms H args with
    | some (p, as, H') => match K (as.map (mapV (idx (namesY H' as)))) (subH H' (namesY H' as)) with
      | some r => if nodupH (namesY H' as) = true ∧ (namesY H' as).all (· < H'.length) = true ∧ (namesY H' as).length ≤ r.heap.length then
          some ⟨p ∧ r.pre, mapR (bwd (namesY H' as) H'.length) r.res, backH H' (namesY H' as) r.heap⟩ else none
      | none => none
    | none => none
  | none => none

theorem callYE_ok {Γ : HCtr} (hΓ : HCtrOk P Γ) (hI : Inv C Φ L H w) {f : FuncId} {args : List AV} {r : ER} (h : callYE Γ H f args = some r) (hp : r.pre) {vs : Array Value} (hsz : vs.size = args.length)
    (hv : ∀ (i : Nat) c v, args[i]? = some c → vs[i]? = some v → CVal Φ L c v) :
    Calls P f vs w fun e w' => ∃ v, e = .returned v ∧ EPost C Φ L r v w' := by
  unfold callYE at h
  split at h
  · rename_i ms K hf
    split at h
    · rename_i p as H' hs
      split at h
      · rename_i cr hK
        split at h
        · rename_i hc
          simp only [Option.some.injEq] at h; subst h
          obtain ⟨hn, hall, hlen⟩ := hc
          obtain ⟨hp1, hp2⟩ := hp
          obtain ⟨Φ1, m1, i1, hl, k1⟩ := solidM_ok hI hs hp1
          have hall' : ∀ j ∈ namesY H' as, j < H'.length := fun j hj => by simpa using List.all_eq_true.1 hall j hj
          obtain ⟨F, hF⟩ := i1.deep
          refine (hΓ f ms K hf _ _ cr hK hp2 w Φ1 _ _ vs (i1.handed hF hn hall') (by simpa [hl] using hsz) fun i c v hci hvi => ?_).mono fun e w' ⟨v, Φ', L', he, hI', hres⟩ => ⟨v, he, ?_⟩
          · rw [List.getElem?_map] at hci
            cases hai : as[i]? with
            | none => rw [hai] at hci; simp at hci
            | some x =>
              rw [hai] at hci; simp at hci; subst hci
              exact mapV_ok Nms_fwd (k1 vs.toList (fun i c v hc hv' => hv i c v hc (by simpa using hv')) i x v hai (by simpa using hvi))
          · obtain ⟨hb, hN⟩ := i1.back hF hn hall' hlen hI'
            exact ⟨Φ', _, m1.trans hI'.base, fun i x hx => by rw [List.getElem?_append_left (List.getElem?_eq_some_iff.1 hx).1]; exact hx, hb, mapR_ok hN hres⟩
        · cases h
      · cases h
    · cases h
  · cases h

/-! ### Both kinds of contracts -/

/-- How a region that draws its order is walked: 'take': may be taken first; 'one': the only one that may come up; 'two': one of two. -/
inductive Plan where
  | done
  | take (i : Nat) (p : Plan)
  | one (i : Nat) (p : Plan)
  | two (i j : Nat) (p q : Plan)

/-- A contract whose answer is known only to exist: 'all K' says that K holds of whatever comes of the call. -/
def XOk (P : Program) (f : FuncId) (args : List AV) (H0 : List AObj) (all : (AV → List AObj → Prop) → Prop) : Prop :=
  ∀ (w : World) (Φ : Nat → Option Obj) (L : Locs) (W : List Nat) (vs : Array Value), Inv ⟨w, Φ, W, L⟩ Φ L H0 w → vs.size = args.length → (∀ (i : Nat) c v, args[i]? = some c → vs[i]? = some v → CVal Φ L c v) →
    Calls P f vs w fun e w' => ∃ v Φ' L' av h, (∀ K : AV → List AObj → Prop, all K → K av h) ∧ e = .returned v ∧ Inv ⟨w, Φ, W, L⟩ Φ' L' h w' ∧ CVal Φ' L' av v
structure XR where
  pre : Prop
  all : (AV → List AObj → Prop) → Prop
abbrev XCtr := FuncId → Option (List Bool × (List AV → List AObj → Option XR))
def XCtrOk (P : Program) (Γ : XCtr) : Prop := ∀ f ms K, Γ f = some (ms, K) → ∀ args H0 r, K args H0 = some r → r.pre → XOk P f args H0 r.all

def callX (Γ : XCtr) (H : List AObj) (f : FuncId) (args : List AV) : Option XR :=
  match Γ f with
  | some (ms, K) => match solidM ms H args with
    | some (p, as, H') => match K (as.map (mapV (idx (addNs [] as)))) (subH H' (addNs [] as)) with
      | some r => if nodupH (addNs [] as) = true ∧ (addNs [] as).all (· < H'.length) = true then
          some ⟨p ∧ r.pre ∧ r.all (fun _ h => (addNs [] as).length ≤ h.length), fun K => r.all fun av h => K (mapR (bwd (addNs [] as) H'.length) av) (backH H' (addNs [] as) h)⟩ else none
      | none => none
    | none => none
  | none => none

theorem callX_ok {Γ : XCtr} (hΓ : XCtrOk P Γ) (hI : Inv C Φ L H w) {f : FuncId} {args : List AV} {r : XR} (h : callX Γ H f args = some r) (hp : r.pre) {vs : Array Value} (hsz : vs.size = args.length)
    (hv : ∀ (i : Nat) c v, args[i]? = some c → vs[i]? = some v → CVal Φ L c v) :
    Calls P f vs w fun e w' => ∃ v av h, (∀ K : AV → List AObj → Prop, r.all K → K av h) ∧ e = .returned v ∧ EPost C Φ L ⟨True, av, h⟩ v w' := by
  unfold callX at h
  split at h
  · rename_i ms K hf
    split at h
    · rename_i p as H' hs
      split at h
      · rename_i cr hK
        split at h
        · rename_i hc
          simp only [Option.some.injEq] at h; subst h
          obtain ⟨hn, hall⟩ := hc
          obtain ⟨hp1, hp2, hp3⟩ := hp
          obtain ⟨Φ1, m1, i1, hl, k1⟩ := solidM_ok hI hs hp1
          have hall' : ∀ j ∈ addNs [] as, j < H'.length := fun j hj => by simpa using List.all_eq_true.1 hall j hj
          obtain ⟨F, hF⟩ := i1.deep
          refine (hΓ f ms K hf _ _ cr hK hp2 w Φ1 _ _ vs (i1.handed hF hn hall') (by simpa [hl] using hsz) fun i c v hci hvi => ?_).mono fun e w' ⟨v, Φ', L', av, hh, ha, he, hI', hres⟩ => ⟨v, _, _, fun K hk => ha (fun av h => K (mapR (bwd (addNs [] as) H'.length) av) (backH H' (addNs [] as) h)) hk, he, ?_⟩
          · rw [List.getElem?_map] at hci
            cases hai : as[i]? with
            | none => rw [hai] at hci; simp at hci
            | some x =>
              rw [hai] at hci; simp at hci; subst hci
              exact mapV_ok Nms_fwd (k1 vs.toList (fun i c v hc hv' => hv i c v hc (by simpa using hv')) i x v hai (by simpa using hvi))
          · obtain ⟨hb, hN⟩ := i1.back hF hn hall' (ha _ hp3) hI'
            exact ⟨Φ', _, m1.trans hI'.base, fun i x hx => by rw [List.getElem?_append_left (List.getElem?_eq_some_iff.1 hx).1]; exact hx, hb, mapR_ok hN hres⟩
        · cases h
      · cases h
    · cases h
  · cases h

structure Ctrs where
  q : Ctr
  h : HCtr
  pl : Nat → Option (List Nat × Plan) := fun _ => none
  dt : TypeId → Option DT := fun _ => none
  z : HCtr := fun _ => none
  x : XCtr := fun _ => none
  y : HCtr := fun _ => none
def CtrsOk (P : Program) (Γ : Ctrs) : Prop := CtrOk P Γ.q ∧ HCtrOk P Γ.h ∧ HCtrOk P Γ.z ∧ XCtrOk P Γ.x ∧ HCtrOk P Γ.y
/-- In a region that draws its order: the other contracts come first. -/
def Ctrs.zz (Γ : Ctrs) : Ctrs := ⟨Γ.q, fun f => match Γ.z f with | some m => some m | none => Γ.h f, Γ.pl, Γ.dt, Γ.z, Γ.x, Γ.y⟩
theorem CtrsOk.zz {Γ : Ctrs} (hΓ : CtrsOk P Γ) : CtrsOk P Γ.zz := by
  refine ⟨hΓ.1, ?_, hΓ.2.2⟩
  intro f ms K h
  have h : (match Γ.z f with | some m => some m | none => Γ.h f) = some (ms, K) := h
  split at h
  · rename_i m hm
    cases h; exact hΓ.2.2.1 f ms K hm
  · exact hΓ.2.1 f ms K h

def callB (Γ : Ctrs) (H : List AObj) (f : FuncId) (args : List AV) : Option ER := match callE Γ.q H f args with
  | some r => some r
  | none => match callHE Γ.h H f args with
    | some r => some r
    | none => callYE Γ.y H f args

theorem callB_ok {Γ : Ctrs} (hΓ : CtrsOk P Γ) (hI : Inv C Φ L H w) {f : FuncId} {args : List AV} {r : ER} (h : callB Γ H f args = some r) (hp : r.pre) {vs : Array Value} (hsz : vs.size = args.length)
    (hv : ∀ (i : Nat) c v, args[i]? = some c → vs[i]? = some v → CVal Φ L c v) :
    Calls P f vs w fun e w' => ∃ v, e = .returned v ∧ EPost C Φ L r v w' := by
  unfold callB at h
  split at h
  · rename_i r' hr
    simp only [Option.some.injEq] at h; subst h
    exact (callE_ok hΓ.1 hI hr hp hsz hv).mono fun e w' ⟨v, h1, h2, _⟩ => ⟨v, h1, h2⟩
  · split at h
    · rename_i r' hr
      simp only [Option.some.injEq] at h; subst h
      exact callHE_ok hΓ.2.1 hI hr hp hsz hv
    · exact callYE_ok hΓ.2.2.2.2 hI h hp hsz hv

/-- Nothing that lay dead lives again. -/
def LiveLe (H H' : List AObj) : Prop := ∀ (i : Nat) o, i < H.length → H'[i]? = some o → o.live = true → ∃ o', H[i]? = some o' ∧ o'.live = true ∧ (o.flat = true → o'.flat = true)
theorem LiveLe.refl (H : List AObj) : LiveLe H H := fun i o _ h hl => ⟨o, h, hl, id⟩
theorem LiveLe.trans {a b c : List AObj} (hab : a.length ≤ b.length) (h : LiveLe a b) (k : LiveLe b c) : LiveLe a c := fun i o hi ho hl => by
  obtain ⟨o', h1, h2, h3⟩ := k i o (by omega) ho hl
  obtain ⟨o2, h4, h5, h6⟩ := h i o' hi h1 h2
  exact ⟨o2, h4, h5, fun e => h6 (h3 e)⟩
theorem solid1_live {H : List AObj} {c : AV} {p : Prop} {c' : AV} {H' : List AObj} (hs : solid1 H c = some (p, c', H')) : H'.length = H.length ∧ LiveLe H H' := by
  unfold solid1 at hs
  split at hs
  · split at hs
    · rename_i β n oo T e xs ho
      simp only [Option.some.injEq, Prod.mk.injEq] at hs
      obtain ⟨_, _, rfl⟩ := hs
      refine ⟨by simp, fun i o hi ho' hl => ?_⟩
      by_cases hb : β = i
      · subst hb
        rw [List.getElem?_set_self hi] at ho'
        simp only [Option.some.injEq] at ho'; subst ho'; cases hl
      · rw [List.getElem?_set_ne hb] at ho'
        exact ⟨o, ho', hl, id⟩
    · simp only [Option.some.injEq, Prod.mk.injEq] at hs
      obtain ⟨_, _, rfl⟩ := hs
      exact ⟨rfl, .refl _⟩
    · cases hs
  · simp only [Option.some.injEq, Prod.mk.injEq] at hs
    obtain ⟨_, _, rfl⟩ := hs
    exact ⟨rfl, .refl _⟩
theorem solid_live : ∀ {cs : List AV} {H : List AObj} {p : Prop} {cs' : List AV} {H' : List AObj}, solid H cs = some (p, cs', H') → H'.length = H.length ∧ LiveLe H H'
  | [], H, p, cs', H', hs => by
    simp only [solid, Option.some.injEq, Prod.mk.injEq] at hs
    obtain ⟨_, _, rfl⟩ := hs
    exact ⟨rfl, .refl _⟩
  | c :: cs, H, p, cs', H', hs => by
    simp only [solid] at hs
    split at hs
    · cases hs
    · rename_i h1
      split at hs
      · cases hs
      · rename_i h2
        simp only [Option.some.injEq, Prod.mk.injEq] at hs
        obtain ⟨_, _, rfl⟩ := hs
        obtain ⟨a1, a2⟩ := solid1_live h1
        obtain ⟨b1, b2⟩ := solid_live h2
        exact ⟨by omega, a2.trans (by omega) b2⟩
theorem solidV_live {H : List AObj} {c : AV} {p : Prop} {c' : AV} {H' : List AObj} (hs : solidV H c = some (p, c', H')) : H'.length = H.length ∧ LiveLe H H' := by
  unfold solidV at hs
  split at hs
  · split at hs
    · rename_i h1
      simp only [Option.some.injEq, Prod.mk.injEq] at hs
      obtain ⟨_, _, rfl⟩ := hs
      exact solid_live h1
    · cases hs
  · exact solid1_live hs
theorem solidM_live : ∀ {ms : List Bool} {cs : List AV} {H : List AObj} {p : Prop} {cs' : List AV} {H' : List AObj}, solidM ms H cs = some (p, cs', H') → H'.length = H.length ∧ LiveLe H H'
  | ms, [], H, p, cs', H', hs => by
    simp only [solidM, Option.some.injEq, Prod.mk.injEq] at hs
    obtain ⟨_, _, rfl⟩ := hs
    exact ⟨rfl, .refl _⟩
  | ms, c :: cs, H, p, cs', H', hs => by
    simp only [solidM] at hs
    split at hs
    · rename_i p1 c1 H1 h1
      split at hs
      · rename_i h2
        simp only [Option.some.injEq, Prod.mk.injEq] at hs
        obtain ⟨_, _, rfl⟩ := hs
        obtain ⟨a1, a2⟩ : H1.length = H.length ∧ LiveLe H H1 := by
          split at h1
          · simp only [Option.some.injEq, Prod.mk.injEq] at h1
            obtain ⟨_, _, rfl⟩ := h1
            exact ⟨rfl, .refl _⟩
          · exact solidV_live h1
        obtain ⟨b1, b2⟩ := solidM_live h2
        exact ⟨by omega, a2.trans (by omega) b2⟩
      · cases hs
    · cases hs

/-- A call that writes nothing that was there. -/
def callN (Γ : Ctrs) (H : List AObj) (f : FuncId) (args : List AV) : Option ER := match callE Γ.q H f args with
  | some r => some r
  | none => match Γ.h f with
    | some (ms, _) => match solidM ms H args with
      | some (_, as, _) => match addNs [] as with
        | [] => callHE Γ.h H f args
        | _ => none
      | none => none
    | none => none

theorem callN_ok {Γ : Ctrs} (hΓ : CtrsOk P Γ) (hI : Inv C Φ L H w) {f : FuncId} {args : List AV} {r : ER} (h : callN Γ H f args = some r) (hp : r.pre) {vs : Array Value} (hsz : vs.size = args.length)
    (hv : ∀ (i : Nat) c v, args[i]? = some c → vs[i]? = some v → CVal Φ L c v) :
    Calls P f vs w fun e w' => ∃ v, e = .returned v ∧ EPost C Φ L r v w' ∧ Below w.heap.size w w' ∧ LiveLe H r.heap := by
  unfold callN at h
  split at h
  · rename_i r' hr
    simp only [Option.some.injEq] at h; subst h
    have hlive : LiveLe H r'.heap := by
      unfold callE at hr
      split at hr
      · split at hr
        · simp only [Option.some.injEq] at hr; subst hr
          exact fun i o hi ho hl => ⟨o, by rw [← ho]; show _ = (H ++ _)[i]?; rw [List.getElem?_append_left hi], hl, id⟩
        · cases hr
      · cases hr
    exact (callE_ok hΓ.1 hI hr hp hsz hv).mono fun e w' ⟨v, h1, h2, h3⟩ => ⟨v, h1, h2, h3, hlive⟩
  · split at h
    · rename_i ms K hf
      split at h
      · rename_i p as H' hs
        split at h
        · rename_i hnm
          unfold callHE at h
          rw [hf] at h
          simp only [hs] at h
          split at h
          · rename_i cr hK
            split at h
            · rename_i hc
              simp only [Option.some.injEq] at h; subst h
              obtain ⟨hn, hall, hlen⟩ := hc
              obtain ⟨hp1, hp2⟩ := hp
              obtain ⟨Φ1, m1, i1, hl, k1⟩ := solidM_ok hI hs hp1
              have hall' : ∀ j ∈ addNs [] as, j < H'.length := fun j hj => by simpa using List.all_eq_true.1 hall j hj
              obtain ⟨F, hF⟩ := i1.deep
              refine (hΓ.2.1 f ms K hf _ _ cr hK hp2 w Φ1 _ _ vs (i1.handed hF hn hall') (by simpa [hl] using hsz) fun i c v hci hvi => ?_).mono fun e w' ⟨v, Φ', L', he, hI', hres⟩ => ⟨v, he, ?_, ?_, ?_⟩
              · rw [List.getElem?_map] at hci
                cases hai : as[i]? with
                | none => rw [hai] at hci; simp at hci
                | some x =>
                  rw [hai] at hci; simp at hci; subst hci
                  exact mapV_ok Nms_fwd (k1 vs.toList (fun i c v hc hv' => hv i c v hc (by simpa using hv')) i x v hai (by simpa using hvi))
              · obtain ⟨hb, hN⟩ := i1.back hF hn hall' hlen hI'
                exact ⟨Φ', _, m1.trans hI'.base, fun i x hx => by rw [List.getElem?_append_left (List.getElem?_eq_some_iff.1 hx).1]; exact hx, hb, mapR_ok hN hres⟩
              rotate_left
              · have hsl := solidM_live hs
                refine hsl.2.trans (by omega) fun i o hi ho hl => ⟨o, ?_, hl, id⟩
                rw [← ho]
                show _ = (backH H' (addNs [] as) cr.heap)[i]?
                unfold backH
                rw [hnm]
                show _ = (putAll H' [] _ ++ _)[i]?
                unfold putAll
                rw [List.getElem?_append_left hi]
              · refine ⟨hI'.os, hI'.tape, hI'.output, hI'.size, fun k hk => hI'.keep k hk ?_⟩
                show k ∉ subW L H' (addNs [] as) ++ subF H' F (addNs [] as)
                rw [hnm]; simp [subW, subF]
            · cases h
          · cases h
        · cases h
      · cases h
    · cases h
end
end Go.Proofs.Ythojapklndjidaa
