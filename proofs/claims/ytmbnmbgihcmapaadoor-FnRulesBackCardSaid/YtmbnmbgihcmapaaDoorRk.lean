/- strings.Builder at this program: copyCheck, String, Len, WriteString. -/
import Derived.Test.YtmbnmbgihcmapaaDoorRa
import Derived.Test.YtmbnmbgihcmapaaDoorSyB
import Derived.Shelf.Strings.Builder1
import Derived.WalkKit
namespace Go.Proofs.YtmbnmbgihcmapaaDoor
open Go Go.RowKit Go.Shelf Go.Proofs
set_option linter.all false
set_option maxRecDepth 100000
set_option maxHeartbeats 4000000
theorem chk_used (b : Nat) (w : World) (h0 : w.cell? ⟨b, 0, none⟩ = some (.pointer (some ⟨b, 0, none⟩))) :
    Calls Tryd.prog 63 #[.pointer (some ⟨b, 0, none⟩)] w fun e w' => e = .returned (.tuple #[]) ∧ w' = w := by
  obtain ⟨j, hj, _⟩ := Option.map_eq_some_iff.1 (show (Tryd.prog.info? 75).map (·.size) = some 2 by kernel_rfl)
  go_enter Tryd.func63, Tryd.ntmps63
  go_wp2
  rw [Lib.run_neq_ptr_same w _ Tryd.underlying73 hj]
  go_wp2
  go_end0
  exact ⟨rfl, rfl⟩
theorem chk_fresh (b : Nat) (w : World) (h0 : w.cell? ⟨b, 0, none⟩ = some (.pointer none)) (hsh : w.shape? b = some (75, 2)) (hfz : w.frozen? ⟨b, 0, none⟩ = false) :
    Calls Tryd.prog 63 #[.pointer (some ⟨b, 0, none⟩)] w fun e w' => e = .returned (.tuple #[]) ∧ w' = w.setCell ⟨b, 0, none⟩ (.pointer (some ⟨b, 0, none⟩)) := by
  obtain ⟨j, hj, hjs⟩ := Option.map_eq_some_iff.1 (show (Tryd.prog.info? 75).map (·.size) = some 2 by kernel_rfl)
  go_enter Tryd.func63, Tryd.ntmps63
  go_wp2
  rw [Lib.run_to_unsafe w ⟨b, 0, none⟩ Tryd.underlying73 Tryd.underlying92 hj (by rw [hjs]; decide) hsh (Nat.zero_lt_succ 1)]
  simp only [Result.andThen]
  rw [Oper.upon_value]
  go_wp2
  rw [run_callFunc_extern Tryd.func67 (by kernel_rfl) (by kernel_rfl) (by kernel_rfl) (e := Extern.AbiNoEscape.same) (by kernel_rfl)]
  rw [Lib.run_noEscape]
  simp only [Result.andThen]
  rw [Oper.upon_value]
  go_wp2
  rw [Lib.run_from_unsafe w ⟨b, 0, none⟩ Tryd.underlying92 Tryd.underlying73 hj hsh (by kernel_rfl)]
  simp only [Result.andThen]
  rw [Oper.upon_value]
  go_wp2
  go_end0
  exact ⟨rfl, rfl⟩
theorem bld_chk' {p : AV} (hp : p = .nilp ∨ p = .ptr 0 0) {n : Nat} {o : AObj} :
    HOk Tryd.prog 63 [.ptr 0 0] [.cells 75 [p, .osl 1 n], o] (.tup []) [.cells 75 [.ptr 0 0, .osl 1 n], o] := by
  intro w Φ Ls W vs hI hsz hv
  have hsz1 : vs.size = 1 := hsz
  have h0 := hv 0 (.ptr 0 0) vs[0] rfl (Array.getElem?_eq_getElem (by omega))
  obtain ⟨l0, hl0, g, cap0, cs, rfl, hg, hcv⟩ := hI.obj 0 _ rfl
  obtain ⟨v0, r0, e0, o0, c0, hcv⟩ := hcv.inv_cons
  obtain ⟨v1, r1, e1, o1, c1, hcv⟩ := hcv.inv_cons
  have e2 := hcv.inv_nil
  have ecs : cs = #[v0, v1] := by
    apply Array.ext'
    rw [e0, e1, e2]
  subst ecs
  rw [one_arg hsz1]
  generalize vs[0] = a at h0
  cases h0 with
  | ptr _ _ g' cap' hL =>
  rw [hl0] at hL
  simp only [Option.some.injEq, Prod.mk.injEq] at hL
  obtain ⟨rfl, rfl⟩ := hL
  have hc0 : w.cell? ⟨g, 0, none⟩ = some v0 := by rw [Lib.cell_of_heap hg]; rfl
  have hlt : g < w.heap.size := lt_of_block hg
  rcases hp with rfl | rfl
  · cases c0
    refine (chk_fresh g w hc0 (by simp [World.shape?, hg]) (Lib.frozen_of_heap hg 0)).mono fun e w' ⟨he, hw⟩ => ?_
    subst he; subst hw
    refine ⟨_, Φ, Ls, rfl, ?_, .tup [] _ rfl (fun i c v h => by simp at h)⟩
    have hk : ∀ k, k ≠ g → (w.setCell ⟨g, 0, none⟩ (.pointer (some ⟨g, 0, none⟩))).heap[k]? = w.heap[k]? := fun k hk => by
      show (Array.modify w.heap g _)[k]? = _
      rw [Array.getElem?_modify, if_neg (fun e => hk e.symm)]
    have hnew : (w.setCell ⟨g, 0, none⟩ (.pointer (some ⟨g, 0, none⟩))).heap[g]? = some (.cells #[.pointer (some ⟨g, 0, none⟩), v1] 75 (0, 0)) := by
      show (Array.modify w.heap g _)[g]? = _
      rw [Array.getElem?_modify, if_pos rfl, hg]
      rfl
    have := hI.turn (γ := 0) (o' := .cells 75 [.ptr 0 0, .osl 1 n]) rfl rfl rfl rfl hl0 (w' := w.setCell ⟨g, 0, none⟩ (.pointer (some ⟨g, 0, none⟩))) hk (Array.size_modify ..) rfl rfl rfl
      ⟨g, cap0, _, rfl, hnew, CVals.cons rfl (.ptr 0 0 g cap0 hl0) (CVals.cons o1 c1 .nil)⟩
    exact this
  · cases c0 with
    | ptr _ _ g2 cap2 hL2 =>
    rw [hl0] at hL2
    simp only [Option.some.injEq, Prod.mk.injEq] at hL2
    obtain ⟨rfl, rfl⟩ := hL2
    refine (chk_used g w hc0).mono fun e w' ⟨he, hw⟩ => ?_
    subst he; subst hw
    exact ⟨_, Φ, Ls, rfl, hI, .tup [] _ rfl (fun i c v h => by simp at h)⟩

theorem yChk' : YSpecOk Tryd.prog 63 (kChk 75) := by
  intro args H0 r hK hp
  unfold kChk at hK
  split at hK
  · rename_i t p n o
    split at hK
    · rename_i h
      simp only [Option.some.injEq] at hK
      subst hK
      obtain ⟨rfl, h2⟩ := h
      exact bld_chk' (okP_ok h2)
    · cases hK
  · cases hK
def lays169_ren : Go.Shelf.Ren := ⟨fun | 169 => 53 | n => n, fun | 70 => 73 | 9 => 9 | 0 => 0 | 72 => 75 | 37 => 31 | 127 => 88 | 3 => 3 | 5 => 5 | n => n, fun | n => n⟩
theorem lays169 : Go.Proofs.Lays.n169 Tryd.prog lays169_ren := {
  mixed := by kernel_rfl
  f169 := Tryd.func53.trans (congrArg some (by kernel_rfl))
  t0 := Tryd.underlying0
  a0 := Tryd.isAgg0
  z0 := Tryd.sizeOf0
  v0 := Tryd.zeroValue0
  t3 := Tryd.underlying3
  a3 := Tryd.isAgg3
  z3 := Tryd.sizeOf3
  v3 := Tryd.zeroValue3
  t9 := Tryd.underlying9
  a9 := Tryd.isAgg9
  z9 := Tryd.sizeOf9
  v9 := Tryd.zeroValue9
  t37 := Tryd.underlying31
  a37 := Tryd.isAgg31
  z37 := Tryd.sizeOf31
  v37 := Tryd.zeroValue31
  t70 := Tryd.underlying73
  a70 := Tryd.isAgg73
  z70 := Tryd.sizeOf73
  v70 := Tryd.zeroValue73
  t72 := Tryd.underlying75
  a72 := Tryd.isAgg75
  z72 := Tryd.sizeOf75
  v72 := Tryd.zeroValue75
  t127 := Tryd.underlying88
  a127 := Tryd.isAgg88
  z127 := Tryd.sizeOf88
  v127 := Tryd.zeroValue88 }
theorem bExtra : Builder.Extra Tryd.prog lays169_ren := {
  sizeBuilder := by kernel_rfl
  liesBuilder := by kernel_rfl
  t5 := Tryd.underlying5
  a5 := Tryd.isAgg5
  z5 := Tryd.sizeOf5
  v5 := Tryd.zeroValue5
  infoByte := by kernel_rfl
  cellsByte := by kernel_rfl
  sizeByte := by kernel_rfl
  neB5 := by decide }
end Go.Proofs.YtmbnmbgihcmapaaDoor
