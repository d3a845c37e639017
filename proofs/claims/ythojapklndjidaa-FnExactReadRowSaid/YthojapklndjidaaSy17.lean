/- What is read of an argument lies in memory as typed data. -/
import Derived.Test.YthojapklndjidaaSyO
import Derived.ProofKit
import Derived.OpenShut
import Derived.ShutString
import Derived.ChangeOld
namespace Go.Proofs.Ythojapklndjidaa
open Go Go.RowKit
set_option linter.unusedVariables false
set_option linter.all false

mutual
def fits (P : Program) : Nat → Ty → TypeId → Bool
  | 0, _, _ => false
  | n + 1, T, t => match P.underlying t with
    | some (.int k) => if k = .u8 then decide (T = .byte) else decide (T = .int k)
    | some .bool => decide (T = .bool)
    | some .string => decide (T = .str)
    | some (.slice e) => match T with
      | .sl E => fits P n E e && P.cellsOf e == E.size && decide (0 < E.size)
      | _ => false
    | some (.struct fs) => fitsF P n T fs.toList 0 && P.cellsOf t == T.size
    | _ => false
def fitsF (P : Program) : Nat → Ty → List Field → Nat → Bool
  | 0, _, _, _ => false
  | n + 1, T, [], _ => decide (T = .unit)
  | n + 1, T, [f], o => f.offset == o && fits P n T f.type && P.cellsOf f.type == T.size
  | n + 1, T, f :: g :: fs, o => match T with
    | .pair a b => f.offset == o && fits P n a f.type && P.cellsOf f.type == a.size && fitsF P n b (g :: fs) (o + a.size)
    | _ => false
end

section
variable {H : Type} {enc : TypeId × Value → H} {P : Program} {w : World} {spare : Nat → Bool} {held : Bool}

theorem wf_inR {k : IntKind} {n : Int} (h : (Lit.int k n).wf = true) : inR k n := by
  cases k <;> simp [Lit.wf, IntKind.min, IntKind.max, IntKind.signed, IntKind.bits, inR] at h ⊢ <;> omega

theorem cells_of {a : Addr} {m : Nat} {ws : List Value} (h : w.cells? 0 a m = some ws) : ws.length = m ∧ ∀ (j : Nat) v, ws[j]? = some v → w.cell? (a.add j) = some v := by
  unfold World.cells? at h
  simp only [Nat.zero_le, if_true] at h
  have hl := mapM_some_length h
  simp at hl
  refine ⟨hl, fun j v hj => ?_⟩
  have hjl : j < m := by rw [← hl]; exact (List.getElem?_eq_some_iff.1 hj).1
  have := mapM_some_get h j j (by simp [hjl])
  rw [hj] at this; exact this

mutual
theorem rep_of_trod : ∀ (n : Nat) (T : Ty) (t : TypeId), fits P n T t = true → ∀ {fuel : Nat} {cs : List Value} {x : DataW H × List MemPlace}, DataW.trod enc P w 0 spare held fuel t cs = some x → ∃ d : T.D, RepT (fun b => w.heap[b]?) T d cs
  | 0, T, t, h, fuel, cs, x, hx => by simp [fits] at h
  | n + 1, T, t, h, fuel, cs, x, hx => by
    unfold fits at h
    split at h
    · rename_i k ht
      obtain ⟨m, rfl, _, hw⟩ := DataW.trod_int ht hx
      have hr := wf_inR hw
      split at h
      · rename_i hk; subst hk
        simp only [decide_eq_true_eq] at h; subst h
        simp only [inR] at hr
        refine ⟨UInt8.ofNat m.toNat, ?_⟩
        have : ((UInt8.ofNat m.toNat).toNat : Int) = m := by rw [UInt8.toNat_ofNat']; omega
        simp only [RepT, this]
      · simp only [decide_eq_true_eq] at h; subst h
        exact ⟨m, rfl, hr⟩
    · rename_i ht
      simp only [decide_eq_true_eq] at h; subst h
      obtain ⟨b, rfl, _⟩ := DataW.trod_bool ht hx
      exact ⟨b, rfl⟩
    · rename_i ht
      simp only [decide_eq_true_eq] at h; subst h
      obtain ⟨s, rfl, _, hs⟩ := DataW.trod_string ht hx
      refine ⟨s.data.toList, by simp, ?_⟩
      have : s.data.toList.length = s.size := by rw [Array.length_toList]; rfl
      rw [this]; exact hs
    · rename_i e ht
      split at h
      · rename_i E
        simp only [Bool.and_eq_true, beq_iff_eq, decide_eq_true_eq] at h
        obtain ⟨⟨h1, h2⟩, h3⟩ := h
        rcases DataW.trod_slice ht hx with ⟨rfl, _⟩ | ⟨a, len, cap, elems, rest, m, _, rfl, _, _, hle, hcap, hlen, hel, _, _⟩
        · exact ⟨[], none, 0, rfl, Nat.le_refl _, Nat.zero_le _, .inl rfl⟩
        · -- each element
          have hall : ∀ i, i < len → ∃ ws d, w.cells? 0 (a.add (i * E.size)) E.size = some ws ∧ RepT (fun b => w.heap[b]?) E d ws := fun i hi => by
            have := hel i hi
            rw [List.getElem?_eq_getElem (by omega)] at this
            obtain ⟨ws, hws, hd⟩ := Option.bind_eq_some_iff.1 this
            rw [h2] at hws
            obtain ⟨d, hd⟩ := rep_of_trod n E e h1 hd
            exact ⟨ws, d, hws, hd⟩
          have hch : ∃ f : Nat → E.D, ∀ i, i < len → ∃ ws, w.cells? 0 (a.add (i * E.size)) E.size = some ws ∧ RepT (fun b => w.heap[b]?) E (f i) ws := by
            refine ⟨fun i => if hi : i < len then (hall i hi).choose_spec.choose else E.dflt, fun i hi => ?_⟩
            simp only [hi, dif_pos]
            exact ⟨_, (hall i hi).choose_spec.choose_spec⟩
          obtain ⟨f, hf⟩ := hch
          refine ⟨(List.range len).map f, some a, cap, by simp, by simpa using hle, hcap, ?_⟩
          by_cases h0 : len = 0
          · exact .inl (by simp [h0])
          · right
            obtain ⟨ws0, hw0, _⟩ := hf 0 (by omega)
            obtain ⟨hl0, hc0⟩ := cells_of hw0
            have hx0 := hc0 0 (ws0[0]'(by omega)) (List.getElem?_eq_getElem _)
            -- the address is plain
            obtain ⟨b, o, sp⟩ := a
            have hsp : sp = none := by
              have e : ((⟨b, o, sp⟩ : Addr).add (0 * E.size)).add 0 = ⟨b, o, sp⟩ := by simp [Addr.add]
              rw [e] at hx0
              unfold World.cell? at hx0
              split at hx0
              · split at hx0
                · cases hx0
                · rename_i hs; cases sp with
                  | none => rfl
                  | some s => exact absurd rfl hs
              · cases hx0
            subst hsp
            have hblk : ∃ cs' t' fz, w.heap[b]? = some (.cells cs' t' fz) := by
              have e : ((⟨b, o, none⟩ : Addr).add (0 * E.size)).add 0 = ⟨b, o, none⟩ := by simp [Addr.add]
              rw [e] at hx0
              unfold World.cell? at hx0
              split at hx0
              · rename_i c t' fz hc; exact ⟨c, t', fz, hc⟩
              · cases hx0
            obtain ⟨cs', t', fz, hb⟩ := hblk
            refine ⟨b, o, cs', t', fz, rfl, hb, fun i hi => ?_⟩
            simp only [List.length_map, List.length_range] at hi
            obtain ⟨ws, hws, hrep⟩ := hf i hi
            obtain ⟨hwl, hwc⟩ := cells_of hws
            refine ⟨ws, by simpa using hrep, fun j v hj => ?_⟩
            have := hwc j v hj
            rw [add_none, add_none] at this
            rw [← cell_of_row w b _ cs' t' fz hb, ← this]
            congr 2
            omega
      · cases h
    · rename_i fs ht
      simp only [Bool.and_eq_true, beq_iff_eq] at h
      obtain ⟨xs, m, _, _, hl, hlen, hf⟩ := DataW.trod_struct ht hx
      have := rep_of_fields' n T fs.toList 0 h.1 (cs := cs) (fun i f hi => by
        have hi' : fs[i]? = some f := by simpa using hi
        have := hf i f hi'
        rw [List.getElem?_eq_getElem (by rw [hlen]; exact (Array.getElem?_eq_some_iff.1 hi').1)] at this
        exact ⟨m, _, this⟩) (by rw [hl, h.2]; simp)
      obtain ⟨d, hd⟩ := this
      refine ⟨d, ?_⟩
      have e : (cs.drop 0).take T.size = cs := by rw [List.drop_zero]; exact List.take_of_length_le (by rw [hl, h.2]; exact Nat.le_refl _)
      rw [e] at hd; exact hd
    · cases h
theorem rep_of_fields' : ∀ (n : Nat) (T : Ty) (fs : List Field) (o : Nat), fitsF P n T fs o = true → ∀ {cs : List Value}, (∀ (i : Nat) f, fs[i]? = some f → ∃ m x, DataW.trod enc P w 0 spare held m f.type ((cs.drop f.offset).take (P.cellsOf f.type)) = some x) → cs.length = o + T.size →
    ∃ d : T.D, RepT (fun b => w.heap[b]?) T d ((cs.drop o).take T.size)
  | 0, T, fs, o, h, cs, hx, hl => by simp [fitsF] at h
  | n + 1, T, [], o, h, cs, hx, hl => by
    simp only [fitsF, decide_eq_true_eq] at h; subst h
    exact ⟨(), by simp [RepT]⟩
  | n + 1, T, [f], o, h, cs, hx, hl => by
    simp only [fitsF, Bool.and_eq_true, beq_iff_eq] at h
    obtain ⟨⟨h1, h2⟩, h3⟩ := h
    obtain ⟨m, x, hm⟩ := hx 0 f rfl
    rw [h1, h3] at hm
    exact rep_of_trod n T f.type h2 hm
  | n + 1, T, f :: g :: fs, o, h, cs, hx, hl => by
    simp only [fitsF] at h
    split at h
    · rename_i a b
      simp only [Bool.and_eq_true, beq_iff_eq] at h
      obtain ⟨⟨⟨h1, h2⟩, h3⟩, h4⟩ := h
      obtain ⟨m, x, hm⟩ := hx 0 f rfl
      rw [h1, h3] at hm
      obtain ⟨d1, hd1⟩ := rep_of_trod n a f.type h2 hm
      obtain ⟨d2, hd2⟩ := rep_of_fields' n b (g :: fs) (o + a.size) h4 (cs := cs) (fun i f hi => hx (i + 1) f (by simpa using hi)) (by rw [hl]; simp; omega)
      refine ⟨(d1, d2), _, _, ?_, hd1, hd2⟩
      rw [← List.drop_drop, ← List.take_add]
      rfl
    · cases h
end
end
end Go.Proofs.Ythojapklndjidaa
