/- strings.Builder: what String does to memory, block by block; copyCheck and String as contracts that follow names. -/
import Derived.Test.YtmbnmbgihcmapaaDoorSy20
import Derived.Shelf.Strings.Builder1
namespace Go.Proofs.YtmbnmbgihcmapaaDoor
open Go Go.RowKit Go.Shelf Go.Proofs
set_option linter.all false
section
variable {P : Program} {C : Ctx} {Φ : Nat → Option Obj} {L : Locs} {H : List AObj} {w : World}
theorem addNo_pre (ps : List Nat) (o : Option AObj) : ∃ r, addNo ps o = ps ++ r := by
  unfold addNo
  split
  · rename_i t cs
    exact addN1s_pre cs ps
  · exact ⟨[], by simp⟩
theorem closeF_pre {H : List AObj} : ∀ (js ps : List Nat), ∃ r, js.foldl (fun q j => addNo q H[j]?) ps = ps ++ r
  | [], ps => ⟨[], by simp⟩
  | j :: js, ps => by
    obtain ⟨r, hr⟩ := addNo_pre ps H[j]?
    obtain ⟨r', hr'⟩ := closeF_pre (H := H) js (addNo ps H[j]?)
    exact ⟨r ++ r', by rw [List.foldl_cons, hr', hr, List.append_assoc]⟩
theorem closeN_pre {H : List AObj} : ∀ (k : Nat) (ps : List Nat), ∃ r, closeN H k ps = ps ++ r
  | 0, ps => ⟨[], by simp [closeN]⟩
  | k + 1, ps => by
    obtain ⟨r, hr⟩ := closeF_pre (H := H) ps ps
    obtain ⟨r', hr'⟩ := closeN_pre (H := H) k (ps.foldl (fun q j => addNo q H[j]?) ps)
    exact ⟨r ++ r', by unfold closeN; rw [hr', hr, List.append_assoc]⟩
/-- What a call hands back, with the names in what it was handed. -/
def retYQ (P : Program) (rs : List ResultVar) (ms : List Bool) (ids : List Nat) (res : AV) (H1 : List AObj) (e : AExit) (S : St) : Prop :=
  match e with
  | .exit _ => False
  | _ => match retAV P S rs with
    | some (p, us) => match solidM ms S.heap us with
      | some (q, vs, H) => p ∧ q ∧ nodupH (closeN H 2 (namesR ids vs)) = true ∧ (closeN H 2 (namesR ids vs)).all (· < H.length) = true ∧ mapR (idx (closeN H 2 (namesR ids vs))) (oneOr vs) = res ∧ subH H (closeN H 2 (namesR ids vs)) = H1
      | none => False
    | none => False

theorem HOk_introY {f : FuncId} {fn : Func} {c : Code} {args : List AV} {H0 H1 : List AObj} {res : AV} (ms : List Bool) (ids : List Nat) (hids : ids = List.range H0.length) (hf : P.funcs[f]? = some fn) (hb : fn.body = some c)
    (h : wfArgs args → ∀ C : Ctx, C.L0.length = H0.length → AWp P C c ⟨args ++ List.replicate (fn.ntmps - args.length) .any, H0⟩ (retYQ P fn.results.toList ms ids res H1)) : HOk P f args H0 res H1 := by
  intro w Φ L W vs hI hsz hv
  refine calls_of_wp hf hb ?_
  have hwf := wfArgs_ok (vs := vs.toList) (by simpa using hsz) (fun i c v hc hv' => hv i c v hc (by simpa using hv'))
  have hconc : Conc ⟨w, Φ, W, L⟩ Φ L ⟨args ++ List.replicate (fn.ntmps - args.length) .any, H0⟩ { tmps := vs ++ Array.replicate (fn.ntmps - vs.size) undef, defers := [] } w := by
    refine ⟨rfl, by simp [hsz], fun i c v hc hu => ?_, hI⟩
    by_cases hi : i < args.length
    · rw [List.getElem?_append_left hi] at hc
      simp only at hu
      rw [Array.getElem?_append_left (by omega)] at hu
      exact hv i c v hc hu
    · rw [List.getElem?_append_right (by omega)] at hc
      have := List.mem_of_getElem? hc
      simp at this
      rw [this.2]; exact .any _
  refine Code.wp_mono ?_ (h hwf ⟨w, Φ, W, L⟩ hI.len Φ L _ w hconc)
  rintro e a' w' ⟨x, S, Φ', L', rfl, hq, hc⟩
  have key : a'.defers = [] ∧ ∃ v, (results fn a'.tmps).run P w' = .ok v w' ∧ ∃ v' Φ'' L'', (Ending.returned v) = .returned v' ∧ Inv ⟨w, Φ, W, L⟩ Φ'' L'' H1 w' ∧ CVal Φ'' L'' res v' := by
    have hq' : match retAV P S fn.results.toList with
        | some (p, us) => match solidM ms S.heap us with
          | some (q, vs, H) => p ∧ q ∧ nodupH (closeN H 2 (namesR ids vs)) = true ∧ (closeN H 2 (namesR ids vs)).all (· < H.length) = true ∧ mapR (idx (closeN H 2 (namesR ids vs))) (oneOr vs) = res ∧ subH H (closeN H 2 (namesR ids vs)) = H1
          | none => False
        | none => False := by
      cases x with
      | exit i => exact hq.elim
      | normal => exact hq
      | ret => exact hq
    clear hq
    split at hq'
    · rename_i p us0 hret
      split at hq'
      · rename_i q us H hsol
        obtain ⟨hp, hqq, hn, hall, rfl, rfl⟩ := hq'
        obtain ⟨zs, hzl, hzc0, hzr⟩ := retAV_ok hc hret hp
        obtain ⟨Φ2, m2, hI2, hul, k2⟩ := solidM_ok hc.inv hsol hqq
        have hzc := k2 zs hzc0
        rw [← hul] at hzl
        have hres : (results fn a'.tmps).run P w' = .ok (if h : zs.toArray.size = 1 then zs.toArray[0] else .tuple zs.toArray) w' := by
          unfold results
          rw [Sem.run_bind, Array.mapM_eq_mapM_toList, Sem.run_map]
          exact congrArg (fun r : Result (List Value) => (r.andThen fun a w' => Result.ok a.toArray w').andThen fun a w' => Sem.run P (pure (if h : a.size = 1 then a[0] else Value.tuple a)) w') hzr
        have hone : CVal Φ2 L' (oneOr us) (if h : zs.toArray.size = 1 then zs.toArray[0] else .tuple zs.toArray) := by
          unfold oneOr
          split
          · rename_i v
            obtain ⟨z, rfl⟩ := List.length_eq_one_iff.1 hzl
            exact hzc 0 v z rfl rfl
          · rename_i hne
            have : ¬ zs.toArray.size = 1 := by
              simp only [List.size_toArray, hzl]
              intro e
              obtain ⟨v, rfl⟩ := List.length_eq_one_iff.1 e
              exact hne v rfl
            rw [dif_neg this]
            exact .tup _ _ (by simpa using hzl) fun i c v hx hu => hzc i c v hx (by simpa using hu)
        have hall' : ∀ j ∈ closeN H 2 (namesR ids us), j < H.length := fun j hj => by simpa using List.all_eq_true.1 hall j hj
        refine ⟨hc.defers, _, hres, _, Φ2, _, rfl, hI2.pick hn hall' fun i hi => ?_, mapR_ok Nms_fwd hone⟩
        obtain ⟨r0, hr0⟩ := namesR_pre us ids
        obtain ⟨r1, hr1⟩ := closeN_pre (H := H) 2 (namesR ids us)
        obtain ⟨r, hr⟩ : ∃ r, closeN H 2 (namesR ids us) = ids ++ r := ⟨r0 ++ r1, by rw [hr1, hr0, List.append_assoc]⟩
        have hi' : i < H0.length := by rw [← hI.len]; exact hi
        rw [hr, hids, List.getElem?_append_left (by simpa using hi')]
        simp [hi']
      · exact hq'.elim
    · exact hq'.elim
  cases x with
  | normal => exact key
  | ret => exact key
  | exit i => exact hq.elim

/-- A nil slice in a cell, as an array of the call's own that holds nothing. -/
theorem AWp_nilc {c : Code} {S : St} {Q : AExit → St → Prop} (γ off : Nat) (t : TypeId) (cs : List AV) (T : Ty) (e : TypeId) (hγ : S.heap[γ]? = some (.cells t cs)) (hd : cs[off]? = some .nilsl) (h : AWp P C c ⟨S.tmps, S.heap.set γ (.cells t (cs.set off (.osl S.heap.length 0))) ++ [.arr T e []]⟩ Q) : AWp P C c S Q := by
  intro Φ L a w hc
  have hL : ∀ (i : Nat) x, L[i]? = some x → (L ++ [none])[i]? = some x := fun i x hx => by rw [List.getElem?_append_left (List.getElem?_eq_some_iff.1 hx).1]; exact hx
  have hn : Inv C Φ (L ++ [none]) (S.heap ++ [.arr T e []]) w :=
    ⟨hc.inv.toInv0.new (l := none) (o := .arr T e []) ⟨[], World.ownsRow_nil w 0 e T.size, rfl⟩ (fun g cap he => by cases he), Deep.new hc.inv (Below.refl _ _) rfl fun g cap he => by cases he⟩
  have hlt : γ < S.heap.length := (List.getElem?_eq_some_iff.1 hγ).1
  refine h Φ (L ++ [none]) a w ⟨hc.defers, hc.size, fun i c v hci hv => (hc.tmps i c v hci hv).mono (More.refl _) hL, ?_⟩
  have he : S.heap.set γ (.cells t (cs.set off (.osl S.heap.length 0))) ++ [.arr T e []] = (S.heap ++ [AObj.arr T e []]).set γ (AObj.cells t (cs.set off (.osl S.heap.length 0))) := by
    rw [List.set_append_left _ _ hlt]
  show Inv C Φ (L ++ [none]) (S.heap.set γ (.cells t (cs.set off (.osl S.heap.length 0))) ++ [.arr T e []]) w
  rw [he]
  have hg2 : (S.heap ++ [.arr T e []])[γ]? = some (.cells t cs) := by rw [List.getElem?_append_left hlt]; exact hγ
  obtain ⟨l, hl, g, cap, vs, rfl, hgw, hcv⟩ := hn.obj γ _ hg2
  refine hn.turn (o' := .cells t (cs.set off (.osl S.heap.length 0))) hg2 rfl rfl rfl hl (fun _ _ => rfl) rfl rfl rfl rfl ⟨g, cap, vs, rfl, hgw, by rw [List.length_set]; exact hcv.1, fun i c v hci hvi => ?_⟩
  rw [List.getElem?_set] at hci
  split at hci
  · rename_i hio
    split at hci
    · simp only [Option.some.injEq] at hci
      subst hci; subst hio
      obtain ⟨h1, h2⟩ := hcv.2 off .nilsl v hd hvi
      refine ⟨h1, ?_⟩
      cases h2
      exact .oslnil _ _ (by rw [← hc.inv.len]; simp) rfl
    · cases hci
  · exact hcv.2 i c v hci hvi
end
section
variable {P : Program} {ρ : Ren}

/-- All but one block as it was. -/
def KeepBut (g : Nat) (w w' : World) : Prop := (∀ k, k ≠ g → w'.heap[k]? = w.heap[k]?) ∧ w'.heap.size = w.heap.size ∧ w'.os = w.os ∧ w'.tape = w.tape ∧ w'.output = w.output

theorem keep_freeze (w : World) (g n : Nat) : KeepBut g w (w.drew.freeze ⟨g, 0, none⟩ n) := by
  unfold World.freeze
  split
  · exact ⟨fun _ _ => rfl, rfl, rfl, rfl, rfl⟩
  · refine ⟨fun k hk => ?_, Array.size_modify .., rfl, rfl, rfl⟩
    show (Array.modify w.drew.heap g _)[k]? = _
    rw [Array.getElem?_modify, if_neg (fun e => hk e.symm)]
    rfl

set_option maxHeartbeats 2000000 in
set_option maxRecDepth 100000 in
theorem bld_String (L : Lays.n169 P ρ) (X : Builder.Extra P ρ) (B b g cap : Nat) (p : Value) (l : List UInt8) (w : World) (h0 : l ≠ []) (hbk : w.heap[b]? = some (.cells #[p, .slice (some ⟨g, 0, none⟩) l.length cap] (ρ.t 72) (0, 0)))
    (hown : w.ownsRow B (ρ.t 5) 1 (.slice (some ⟨g, 0, none⟩) l.length cap) l.length (Lib.byteCells l)) :
    Calls P (ρ.f 169) #[.pointer (some ⟨b, 0, none⟩)] w fun e w' => e = .returned (.string ⟨l.toArray⟩) ∧ KeepBut g w w' := by
  have hl0 : l.length ≠ 0 := by simpa using h0
  obtain ⟨cur, hbg, hg, hnc, hcm, hcs, htake⟩ : ∃ cur, B ≤ g ∧ w.heap[g]? = some (.cells cur (ρ.t 5) (0, 0)) ∧ l.length ≤ cap ∧ cap ≤ maxLen ∧ cur.size = cap * 1 ∧ cur.toList.take (l.length * 1) = Lib.byteCells l := by
    rcases hown.2 with ⟨h1, hz⟩ | ⟨g', cap', cur, hv, r⟩
    · exact absurd hz hl0
    · simp only [Value.slice.injEq, Option.some.injEq, Addr.mk.injEq] at hv
      obtain ⟨⟨rfl, _⟩, _, rfl⟩ := hv
      exact ⟨cur, r⟩
  have c1 : w.drew.cell? ⟨b, 1, none⟩ = some (.slice (some ⟨g, 0, none⟩) l.length cap) := by
    have : w.drew.heap[b]? = some (.cells #[p, .slice (some ⟨g, 0, none⟩) l.length cap] (ρ.t 72) (0, 0)) := hbk
    rw [Lib.cell_of_heap this]; rfl
  have hSD : (Builtin.unsafeSliceData_ #[(ρ.t 37)] (ρ.t 127) #[.slice (some ⟨g, 0, none⟩) l.length cap]).run P w.drew = .ok (.pointer (some ⟨g, 0, none⟩)) w.drew :=
    Lib.run_unsafeSliceData_row _ _ _ _ _ _ (by omega)
  have hUS : (Builtin.unsafeString_ #[(ρ.t 127), (ρ.t 3)] (ρ.t 9) #[.pointer (some ⟨g, 0, none⟩), .int .i64 l.length]).run P w.drew = .ok (.string ⟨l.toArray⟩) (w.drew.freeze ⟨g, 0, none⟩ l.length) := by
    refine Lib.run_unsafeString_row w.drew (ρ.t 127) (ρ.t 3) (ρ.t 9) (ρ.t 5) L.t127 X.cellsByte g cur.size (by have hg' : w.drew.heap[g]? = some (.cells cur (ρ.t 5) (0, 0)) := hg; simp [World.shape?, hg']) l h0 (by omega) (by unfold maxLen at hcm; omega) ?_
    intro j x hx
    have := hown.cells (g := g) rfl j (.int .u8 x.toNat) (by simp [Lib.byteCells, hx])
    exact this
  have mixed := L.mixed
  have t72 := L.t72; have a72 := L.a72; have z72 := L.z72; have v72 := L.v72; have u72 := run_underlying L.t72
  have t70 := L.t70; have a70 := L.a70; have z70 := L.z70; have v70 := L.v70; have u70 := run_underlying L.t70
  have t37 := L.t37; have a37 := L.a37; have z37 := L.z37; have v37 := L.v37; have u37 := run_underlying L.t37
  have t127 := L.t127; have a127 := L.a127; have z127 := L.z127; have v127 := L.v127; have u127 := run_underlying L.t127
  have t3 := L.t3; have a3 := L.a3; have z3 := L.z3; have v3 := L.v3; have u3 := run_underlying L.t3
  have t9 := L.t9; have a9 := L.a9; have z9 := L.z9; have v9 := L.v9; have u9 := run_underlying L.t9
  have t5 := X.t5; have a5 := X.a5; have z5 := X.z5; have v5 := X.v5; have u5 := run_underlying X.t5
  go_enter L.f169, Body.n169_ntmps ρ
  go_wp2
  go_region_o
  all_goals (go_wp2; go_ret; exact ⟨rfl, keep_freeze w g _⟩)

theorem repL_byte {Φ : Nat → Option Obj} : ∀ {xs : List UInt8} {cells : List Value}, RepL Φ .byte xs cells → cells = Lib.byteCells xs
  | [], _, h => h
  | x :: xs, _, h => by
    obtain ⟨v1, v2, rfl, h1, h2⟩ := h
    have h1 : v1 = [_] := h1
    rw [h1, repL_byte h2]; rfl
theorem one_arg {vs : Array Value} (h : vs.size = 1) : vs = #[vs[0]] := by
  apply Array.ext
  · simp [h]
  · intro i h1 h2
    have : i = 0 := by simp at h2; omega
    subst this; rfl
theorem bld_str (L : Lays.n169 P ρ) (X : Builder.Extra P ρ) {p : AV} (xs : List UInt8) :
    HOk P (ρ.f 169) [.ptr 0 0] [.cells (ρ.t 72) [p, .osl 1 xs.length], .arr .byte (ρ.t 5) xs] (.str xs) [.cells (ρ.t 72) [p, .osl 1 xs.length], .dead] := by
  intro w Φ Ls W vs hI hsz hv
  have hsz1 : vs.size = 1 := hsz
  have h0 := hv 0 (.ptr 0 0) vs[0] rfl (Array.getElem?_eq_getElem (by omega))
  obtain ⟨l0, hl0, g, cap0, cs, rfl, hg, hcv⟩ := hI.obj 0 _ rfl
  obtain ⟨l1, hl1, cells, hown, hrep⟩ := hI.obj 1 _ rfl
  obtain ⟨v0, r0, e0, o0, c0, hcv⟩ := hcv.inv_cons
  obtain ⟨v1, r1, e1, o1, c1, hcv⟩ := hcv.inv_cons
  have e2 := hcv.inv_nil
  have ecs : cs = #[v0, v1] := by
    apply Array.ext'
    rw [e0, e1, e2]
  subst ecs
  rw [one_arg hsz1]
  generalize vs[0] = a at h0
  have hs : xs.length ≤ maxB := by
    rcases hown.2 with ⟨_, hz⟩ | ⟨g', cap', cur, hv', _, _, h3, h4, _⟩
    · omega
    · unfold maxLen at h4; unfold maxB; omega
  have hB := repL_byte hrep
  subst hB
  cases h0 with
  | ptr _ _ g' cap' hL =>
  rw [hl0] at hL
  simp only [Option.some.injEq, Prod.mk.injEq] at hL
  obtain ⟨rfl, rfl⟩ := hL
  have fin : ∀ w', Below w.heap.size w w' → ∃ v Φ' L', Ending.returned (.string ⟨xs.toArray⟩) = .returned v ∧ Inv ⟨w, Φ, W, Ls⟩ Φ' L' [.cells (ρ.t 72) [p, .osl 1 xs.length], .dead] w' ∧ CVal Φ' L' (.str xs) v := fun w' hb =>
    ⟨_, Φ, Ls, rfl, (hI.below hb).recast' (H' := [.cells (ρ.t 72) [p, .osl 1 xs.length], .dead]) rfl (fun i o' h => dead_back (H := [.cells (ρ.t 72) [p, .osl 1 xs.length], .arr .byte (ρ.t 5) xs]) (β := 1) i o' h), .str _ hs⟩
  cases c1 with
  | osl _ _ g1 cap1 h1 h2 h3 =>
    have h1' := h1
    rw [hl1] at h1'
    simp only [Option.some.injEq] at h1'
    subst h1'
    by_cases hx : xs = []
    · subst hx
      obtain ⟨cur, hbg⟩ : ∃ cur, w.heap[g1]? = some (.cells cur (ρ.t 5) (0, 0)) := by
        rcases hown.2 with ⟨hz, _⟩ | ⟨g', cap', cur, hv', _, hg', _⟩
        · cases hz
        · simp only [hdr, Value.slice.injEq, Option.some.injEq, Addr.mk.injEq] at hv'
          obtain ⟨⟨rfl, _⟩, _⟩ := hv'
          exact ⟨cur, hg'⟩
      by_cases hc0 : cap1 = 0
      · subst hc0
        exact (Any.Builder_String_noroom L X w.heap.size g g1 v0 cur w (Nat.le_refl _) hg hbg).mono fun e w' ⟨he, hb⟩ => by subst he; exact fin w' hb
      · exact (Any.Builder_String_room L X w.heap.size g g1 cap1 v0 w hc0 hg).mono fun e w' ⟨he, hb⟩ => by subst he; exact fin w' hb
    · refine (bld_String L X 0 g g1 cap1 v0 xs w hx hg hown).mono fun e w' ⟨he, hk, hs1, ho, ht, hou⟩ => ?_
      subst he
      refine ⟨_, Φ, Ls, rfl, ?_, .str _ hs⟩
      have := hI.turn (γ := 1) (o' := .dead) rfl rfl rfl rfl hl1 (w' := w') hk hs1 ho ht hou trivial
      exact this
  | oslnil _ _ h1 h2 =>
    have hx : xs = [] := List.eq_nil_of_length_eq_zero h2
    subst hx
    exact (Any.Builder_String_nil L X w.heap.size g v0 w hg).mono fun e w' ⟨he, hb⟩ => by subst he; exact fin w' hb

theorem bld_chk (L : Lays.n240 P ρ) (X : Builder.X72 P ρ) {p : AV} (hp : p = .nilp ∨ p = .ptr 0 0) {n : Nat} {o : AObj} :
    HOk P (ρ.f 240) [.ptr 0 0] [.cells (ρ.t 72) [p, .osl 1 n], o] (.tup []) [.cells (ρ.t 72) [.ptr 0 0, .osl 1 n], o] := by
  intro w Φ Ls W vs hI hsz hv
  have hsz1 : vs.size = 1 := hsz
  have h0 := hv 0 (.ptr 0 0) vs[0] rfl (Array.getElem?_eq_getElem (by omega))
  obtain ⟨l0, hl0, g, cap0, cs, rfl, hg, hcv⟩ := hI.obj 0 _ rfl
  obtain ⟨v0, r0, e0, o0, c0, hcv⟩ := hcv.inv_cons
  obtain ⟨v1, r1, e1, o1, c1, hcv⟩ := hcv.inv_cons
  have e2 := hcv.inv_nil
  have ecs : cs = #[v0, v1] := by
    apply Array.ext'
    rw [e0, e1, e2]
  subst ecs
  rw [one_arg hsz1]
  generalize vs[0] = a at h0
  cases h0 with
  | ptr _ _ g' cap' hL =>
  rw [hl0] at hL
  simp only [Option.some.injEq, Prod.mk.injEq] at hL
  obtain ⟨rfl, rfl⟩ := hL
  have hc0 : w.cell? ⟨g, 0, none⟩ = some v0 := by rw [Lib.cell_of_heap hg]; rfl
  have hlt : g < w.heap.size := lt_of_block hg
  rcases hp with rfl | rfl
  · cases c0
    refine (Any.Builder_copyCheck_fresh L X g w hc0 (by simp [World.shape?, hg]) (Lib.frozen_of_heap hg 0)).mono fun e w' ⟨he, hw⟩ => ?_
    subst he; subst hw
    refine ⟨_, Φ, Ls, rfl, ?_, .tup [] _ rfl (fun i c v h => by simp at h)⟩
    have hk : ∀ k, k ≠ g → (w.setCell ⟨g, 0, none⟩ (.pointer (some ⟨g, 0, none⟩))).heap[k]? = w.heap[k]? := fun k hk => by
      show (Array.modify w.heap g _)[k]? = _
      rw [Array.getElem?_modify, if_neg (fun e => hk e.symm)]
    have hnew : (w.setCell ⟨g, 0, none⟩ (.pointer (some ⟨g, 0, none⟩))).heap[g]? = some (.cells #[.pointer (some ⟨g, 0, none⟩), v1] (ρ.t 72) (0, 0)) := by
      show (Array.modify w.heap g _)[g]? = _
      rw [Array.getElem?_modify, if_pos rfl, hg]
      rfl
    have := hI.turn (γ := 0) (o' := .cells (ρ.t 72) [.ptr 0 0, .osl 1 n]) rfl rfl rfl rfl hl0 (w' := w.setCell ⟨g, 0, none⟩ (.pointer (some ⟨g, 0, none⟩))) hk (Array.size_modify ..) rfl rfl rfl
      ⟨g, cap0, _, rfl, hnew, CVals.cons rfl (.ptr 0 0 g cap0 hl0) (CVals.cons o1 c1 .nil)⟩
    exact this
  · cases c0 with
    | ptr _ _ g2 cap2 hL2 =>
    rw [hl0] at hL2
    simp only [Option.some.injEq, Prod.mk.injEq] at hL2
    obtain ⟨rfl, rfl⟩ := hL2
    refine (Any.Builder_copyCheck_used L X g w hc0).mono fun e w' ⟨he, hw⟩ => ?_
    subst he; subst hw
    exact ⟨_, Φ, Ls, rfl, hI, .tup [] _ rfl (fun i c v h => by simp at h)⟩

/-! ### The contracts, as what follows names -/
def okP : AV → Bool
  | .nilp => true
  | .ptr 0 0 => true
  | _ => false
theorem okP_ok {p : AV} (h : okP p = true) : p = .nilp ∨ p = .ptr 0 0 := by
  unfold okP at h
  split at h
  · exact .inl rfl
  · exact .inr rfl
  · cases h
/-- A builder's cells and its bytes. -/
def kChk (tB : TypeId) : List AV → List AObj → Option HR
  | [.ptr 0 0], [.cells t [p, .osl 1 n], o] => if t = tB ∧ okP p = true then some ⟨True, .tup [], [.cells tB [.ptr 0 0, .osl 1 n], o]⟩ else none
  | _, _ => none
def kStr (tB e : TypeId) : List AV → List AObj → Option HR
  | [.ptr 0 0], [.cells t [p, .osl 1 n], .arr T e' xs] => if h : T = .byte then if t = tB ∧ e' = e then some ⟨n = xs.length, .str (castL h xs), [.cells tB [p, .osl 1 n], .dead]⟩ else none else none
  | _, _ => none
def kLen (tB e : TypeId) : List AV → List AObj → Option HR
  | [.ptr 0 0], [.cells t [p, .osl 1 n], .arr T e' xs] => if t = tB then some ⟨True, .int .i64 n, [.cells tB [p, .osl 1 n], .arr T e' xs]⟩ else none
  | [.ptr 0 0], [.cells t [p, .osl 1 n], .dead] => if t = tB then some ⟨True, .int .i64 n, [.cells tB [p, .osl 1 n], .dead]⟩ else none
  | _, _ => none
def kWS (tB e : TypeId) : List AV → List AObj → Option HR
  | [.ptr 0 0, .str s], [.cells t [p, .osl 1 n], .arr T e' xs] => if h : T = .byte then if t = tB ∧ e' = e ∧ okP p = true then
      some ⟨n = xs.length ∧ xs.length + s.length ≤ 1048576, .tup [.int .i64 s.length, .nili], [.cells tB [.ptr 0 0, .osl 2 (xs.length + s.length)], .dead, .arr .byte e (castL h xs ++ s)]⟩ else none else none
  | _, _ => none
def kWB (tB e : TypeId) : List AV → List AObj → Option HR
  | [.ptr 0 0, .int .u8 c], [.cells t [p, .osl 1 n], .arr T e' xs] => if h : T = .byte then if t = tB ∧ e' = e ∧ okP p = true then
      some ⟨n = xs.length ∧ xs.length + 1 ≤ 1048576, .nili, [.cells tB [.ptr 0 0, .osl 2 (xs.length + 1)], .dead, .arr .byte e (castL h xs ++ [UInt8.ofNat c.toNat])]⟩ else none else none
  | _, _ => none
theorem yChk (L : Lays.n240 P ρ) (X : Builder.X72 P ρ) {f : FuncId} {tB : TypeId} (hf : ρ.f 240 = f) (ht : ρ.t 72 = tB) : YSpecOk P f (kChk tB) := by
  subst hf; subst ht
  intro args H0 r hK hp
  unfold kChk at hK
  split at hK
  · rename_i t p n o
    split at hK
    · rename_i h
      simp only [Option.some.injEq] at hK
      subst hK
      obtain ⟨rfl, h2⟩ := h
      exact bld_chk L X (okP_ok h2)
    · cases hK
  · cases hK
theorem yStr (L : Lays.n169 P ρ) (X : Builder.Extra P ρ) {f : FuncId} {tB e : TypeId} (hf : ρ.f 169 = f) (ht : ρ.t 72 = tB) (he : ρ.t 5 = e) : YSpecOk P f (kStr tB e) := by
  subst hf; subst ht; subst he
  intro args H0 r hK hp
  unfold kStr at hK
  split at hK
  · rename_i t p n T e' xs
    split at hK
    · rename_i hT
      subst hT
      split at hK
      · rename_i h
        simp only [Option.some.injEq] at hK
        subst hK
        obtain ⟨rfl, rfl⟩ := h
        have hp : n = xs.length := hp
        subst hp
        exact bld_str L X xs
      · cases hK
    · cases hK
  · cases hK
attribute [simp] okP kChk kStr kLen kWS kWB
theorem retYQ_ret (P : Program) (rs : List ResultVar) (ms : List Bool) (ids : List Nat) (res : AV) (H1 : List AObj) (S : St) : retYQ P rs ms ids res H1 .ret S = (match retAV P S rs with
    | some (p, us) => match solidM ms S.heap us with
      | some (q, vs, H) => p ∧ q ∧ nodupH (closeN H 2 (namesR ids vs)) = true ∧ (closeN H 2 (namesR ids vs)).all (· < H.length) = true ∧ mapR (idx (closeN H 2 (namesR ids vs))) (oneOr vs) = res ∧ subH H (closeN H 2 (namesR ids vs)) = H1
      | none => False
    | none => False) := rfl
theorem retYQ_normal (P : Program) (rs : List ResultVar) (ms : List Bool) (ids : List Nat) (res : AV) (H1 : List AObj) (S : St) : retYQ P rs ms ids res H1 .normal S = (match retAV P S rs with
    | some (p, us) => match solidM ms S.heap us with
      | some (q, vs, H) => p ∧ q ∧ nodupH (closeN H 2 (namesR ids vs)) = true ∧ (closeN H 2 (namesR ids vs)).all (· < H.length) = true ∧ mapR (idx (closeN H 2 (namesR ids vs))) (oneOr vs) = res ∧ subH H (closeN H 2 (namesR ids vs)) = H1
      | none => False
    | none => False) := rfl
end
end Go.Proofs.YtmbnmbgihcmapaaDoor
