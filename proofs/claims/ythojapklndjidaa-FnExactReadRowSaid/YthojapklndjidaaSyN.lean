/- Maps: made and written. -/
import Derived.Test.YthojapklndjidaaSy12
namespace Go.Proofs.Ythojapklndjidaa
open Go Go.RowKit
set_option linter.unusedVariables false
set_option linter.all false

def makeMapE (τ : TypeId → Option Ty) (H : List AObj) (mi : TypeId × TypeId × TK × AV) : Option ER := match τ mi.1, τ mi.2.1 with
  | some K, some V => some ⟨True, .omap H.length, H ++ [.map K V []]⟩
  | _, _ => none

def plainW : AV → Bool
  | .bool _ => true
  | .int _ _ => true
  | .str _ => true
  | _ => false

def mapE (H : List AObj) (mi : TypeId × TypeId × TK × AV) (m k v : AV) : Option ER := match m with
  | .omap γ => match H[γ]? with
    | some (.map K V xs) => match keyD mi.2.2.1 K k, (if plainW v = true then unflat1 V [v] else none) with
      | some kv, some vv => some ⟨True, .any, H.set γ (.map K V (mput xs kv vv))⟩
      | _, _ => none
    | _ => none
  | _ => none

section
variable {P : Program} {C : Ctx} {Φ : Nat → Option Obj} {L : Locs} {H : List AObj} {w : World}

theorem makeMapE_ok {τ : TypeId → Option Ty} {t : TypeId} {mi : TypeId × TypeId × TK × AV} {r : ER} (h : makeMapE τ H mi = some r) (hI : Inv C Φ L H w) :
    ∃ v w', (Instr.makeMap t none).run P w = .ok v w' ∧ EPost C Φ L r v w' := by
  unfold makeMapE at h
  split at h
  · rename_i K V hK hV
    simp only [Option.some.injEq] at h; subst h
    have hb : Below w.heap.size w (w.alloc (.map #[] 0)) := ⟨rfl, rfl, rfl, by show w.heap.size ≤ (w.heap.push _).size; simp, fun k hk => (MapKept.heap_alloc w _).2 k hk⟩
    refine ⟨_, _, run_makeMap t w, Φ, L ++ [some (w.heap.size, 0)], More.refl _, Locs.snoc _, hI.alloc_new hb 0 rfl fun L' hL' => ⟨w.heap.size, 0, #[], 0, rfl, (MapKept.heap_alloc w _).1, rfl⟩, ?_⟩
    exact .omap _ w.heap.size 0 (by rw [← hI.len]; simp)
  · cases h

theorem Ents.get {K V : Ty} : ∀ {xs : List (K.D × V.D)} {es : List MapEntry}, Ents Φ K V xs es → ∀ (j : Nat) e k v, (∃ x, xs[j]? = some x) → KRep Φ K k e.key → RepT Φ V v [e.val] → Ents Φ K V (xs.set j (k, v)) (es.set j e)
  | [], _, h, j, e, k, v, hx, _, _ => by obtain ⟨x, hx⟩ := hx; simp at hx
  | x :: xs, _, h, 0, e, k, v, hx, h1, h2 => by
    obtain ⟨e', r, rfl, _, _, h3⟩ := h
    exact ⟨e, r, rfl, h1, h2, h3⟩
  | x :: xs, _, h, j + 1, e, k, v, hx, h1, h2 => by
    obtain ⟨e', r, rfl, a1, a2, h3⟩ := h
    exact ⟨e', r.set j e, rfl, a1, a2, Ents.get h3 j e k v (by simpa using hx) h1 h2⟩
theorem Ents.snoc {K V : Ty} : ∀ {xs : List (K.D × V.D)} {es : List MapEntry}, Ents Φ K V xs es → ∀ (e : MapEntry) k v, KRep Φ K k e.key → RepT Φ V v [e.val] → Ents Φ K V (xs ++ [(k, v)]) (es ++ [e])
  | [], _, h, e, k, v, h1, h2 => by
    have h : _ = [] := h
    subst h
    exact ⟨e, [], rfl, h1, h2, rfl⟩
  | x :: xs, _, h, e, k, v, h1, h2 => by
    obtain ⟨e', r, rfl, a1, a2, h3⟩ := h
    exact ⟨e', r ++ [e], rfl, a1, a2, Ents.snoc h3 e k v h1 h2⟩

theorem mapE_ok {t : TypeId} {mi : TypeId × TypeId × TK × AV} (hmi : mapInfo P t = some mi) {m k x : AV} {r : ER} (h : mapE H mi m k x = some r) (hI : Inv C Φ L H w) {u v y : Value} (hu : CVal Φ L m u) (hv : CVal Φ L k v) (hy : CVal Φ L x y) :
    ∃ w', (Instr.mapUpdate t u v y).run P w = .ok () w' ∧ EPost C Φ L r undef w' := by
  obtain ⟨kt, et, kd, za⟩ := mi
  unfold mapE at h
  split at h
  · rename_i γ
    split at h
    · rename_i K V xs ho
      split at h
      · rename_i kv vv hkey hval
        simp only [Option.some.injEq] at h; subst h
        split at hval
        case isFalse => cases hval
        rename_i hpl
        obtain ⟨l, hl, g, cap, es, clock, rfl, hg, hents⟩ := hI.obj γ _ ho
        cases hu with
        | omap _ g' cap' hl' =>
          rw [hl] at hl'; simp only [Option.some.injEq, Prod.mk.injEq] at hl'
          obtain ⟨rfl, rfl⟩ := hl'
          obtain ⟨d, z, ht, hd, rfl, hz, hone, hza⟩ := mapInfo_ok hmi w
          have kf := keyD_ok hd hkey hv
          have hkr := kf.rep
          have hyone : y.oneCell' = true := by cases hy <;> first | (cases hpl; done) | rfl
          have hvr : RepT Φ V vv [y] := unflat1_ok (L := L) hval (CVals.cons hyone hy .nil)
          have fin : ∀ (es' : Array MapEntry) (c' : Nat), Ents Φ K V (mput xs kv vv) es'.toList → EPost C Φ L ⟨True, .any, H.set γ (.map K V (mput xs kv vv))⟩ undef { w with heap := w.heap.setIfInBounds g (.map es' c') } := fun es' c' he => by
            obtain ⟨s1, s2⟩ := MapKept.heap_set (o' := .map es' c') hg
            exact ⟨Φ, L, More.refl _, fun _ _ h => h, hI.turn ho rfl rfl rfl hl (fun k hk => s2 k hk) (by simp) rfl rfl rfl ⟨g, cap, es', c', rfl, s1, he⟩, .any _⟩
          rcases kf.find hents with ⟨_, a2, _, a4⟩ | ⟨j, e, x', a1, a2, a3, a4, a5, _, _, a8⟩
          · refine ⟨_, ?_, fin (es.push ⟨v, y, clock⟩) (clock + 1) ?_⟩
            · simp [Instr.mapUpdate, run_underlying ht, MapKept.run_getObj_map hg, kf.check, a2, MapKept.run_setObj_map _ hg, Result.andThen]
            · rw [a4, Array.toList_push]
              exact hents.snoc _ _ _ hkr hvr
          · have hj : es[j]? = some e := by simpa using a1
            refine ⟨_, ?_, fin (es.modify j fun e' => { e' with key := v, val := y }) clock ?_⟩
            · have hst := kf.stays w
              simp [Instr.mapUpdate, run_underlying ht, MapKept.run_getObj_map hg, kf.check, a4, hj, a3, hst, MapKept.run_setObj_map _ hg, Result.andThen]
            · have hlist : (es.modify j (fun e' => { e' with key := v, val := y })).toList = es.toList.set j { e with key := v, val := y } := by
                rw [Array.toList_modify]
                apply List.ext_getElem?
                intro i
                rw [List.getElem?_modify, List.getElem?_set]
                by_cases hij : j = i
                · subst hij
                  have hlt := (List.getElem?_eq_some_iff.1 a1).1
                  rw [if_pos rfl, if_pos hlt, a1]; simp
                · rw [if_neg hij]; simp [hij]
              rw [hlist, a8]
              exact hents.get j _ _ _ ⟨x', a2⟩ hkr hvr
      · cases h
    · cases h
  · cases h
end
end Go.Proofs.Ythojapklndjidaa
