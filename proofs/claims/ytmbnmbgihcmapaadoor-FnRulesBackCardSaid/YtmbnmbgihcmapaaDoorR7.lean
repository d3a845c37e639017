/- The tied card of the law FnRulesBack: for every input the law answers true, and what it was handed reads as before. -/
import Derived.Test.YtmbnmbgihcmapaaDoorL7
import Derived.Test.YtmbnmbgihcmapaaDoorSyG
import Derived.Test.YtmbnmbgihcmapaaDoorRows
import Derived.Test.YtmbnmbgihcmapaaDoorCards
import Derived.Test.YtmbnmbgihcmapaaDoorTie
import Derived.SevenTiedAt
import Derived.WalkKit
import Derived.ProofKit
import Derived.LaidMore
import Derived.OpenShut
import Derived.ShutString
import Derived.ChangeOld
import Derived.Stop.Joined
import Derived.Below
import Derived.LaidHandle
import Derived.Lib.LaidTab
import Derived.OpenVars
import Derived.Shelf.Vars
namespace Go.Proofs.YtmbnmbgihcmapaaDoor.fnRulesBack
open Go Go.ChangeShapes Go.WideShapes Go.ChangeAt Go.RowKit Go.Proofs.YtmbnmbgihcmapaaDoor
set_option linter.unusedVariables false
set_option linter.all false
set_option maxRecDepth 100000

theorem own : ownKnob Tryd.prog.godebug = none := by kernel_rfl
theorem laidOut : laidOutB Tryd.prog = true := by kernel_rfl
abbrev laidL : List (String × DataW Unit) := Rows.fnRulesBackRow.laid
/-- The door's world, with unicode/utf8.first as it stands in the table. -/
noncomputable def laidW (os : Os) : World := { World.doorLaid Tryd.prog 4000 os with heap := (World.doorLaid Tryd.prog 4000 os).heap.modify 3 fun
    | .cells _ t fz => .cells (Pinned.utf8FirstZ.map fun z => Value.int .u8 (Int.ofNat z)).toArray t fz
    | o => o }
theorem door_met (os : Os) (args : Array Value) : laidMetH Tryd.prog laidL ((laidW os).forCall (fun _ _ => 0) ⟨#[], args, []⟩).memory :=
  laidMetH_of_parts3 (fuel := 8) (laidMet_of_run' 8 (by kernel_rfl) (by kernel_rfl)) (by kernel_rfl) (by kernel_rfl)
theorem of_laid {W : World} (h : laidMetH Tryd.prog laidL W) (hS : W.ShapedOpen Tryd.prog) : GlOk (fun b => W.heap[b]?) := by
  rw [MakeChecks.laidMetH_plain _ _ _ (by kernel_rfl)] at h
  obtain ⟨ps, hl, _⟩ := h
  obtain ⟨gA, tA, csA, fA, pA, qA, hgA, htA, hvA, hdA, hl, _⟩ := hl
  obtain ⟨g0, t0, cs0, f0, p0, q0, hg0, ht0, hv0, hd0, hl, _⟩ := hl
  obtain ⟨g1, t1, cs1, f1, p1, q1, hg1, ht1, hv1, hd1, _⟩ := hl
  have e0 : g0 = 0 := Option.some.inj (hg0.symm.trans (by kernel_rfl))
  subst e0
  have e1 : g1 = 1 := Option.some.inj (hg1.symm.trans (by kernel_rfl))
  subst e1
  have a0 : t0 = 62 := Option.some.inj (ht0.symm.trans (by kernel_rfl))
  subst a0
  have a1 : t1 = 62 := Option.some.inj (ht1.symm.trans (by kernel_rfl))
  subst a1
  have r0 := strs_of_trod (L := mayW) Tryd.underlying62 Tryd.underlying9 (by kernel_rfl) (by kernel_rfl) hd0 rfl
  have r1 := strs_of_trod (L := onW) Tryd.underlying62 Tryd.underlying9 (by kernel_rfl) (by kernel_rfl) hd1 rfl
  obtain ⟨m, hm⟩ := Go.Proofs.cell_of_shapedOpen_int (g := 2) (k := .i64) (t := 3) (zero := #[.int .i64 0]) hS (by decide +kernel) (by kernel_rfl) rfl (by kernel_rfl) (by kernel_rfl) Tryd.underlying3
  obtain ⟨cs2, hh2, hs2, _⟩ := hS.1 2 #[.int .i64 0] 3 (by decide +kernel) (by kernel_rfl)
  have hvar : ∀ {g : Nat} {name : String} {cs : Array Value}, Tryd.prog.globalNamed name = some g → W.var? Tryd.prog name = some cs → ∃ t fz, W.heap[g]? = some (.cells cs t fz) := fun hg hv => by
    unfold World.var? at hv
    rw [hg] at hv
    simp only [Option.bind_some] at hv
    split at hv
    · rename_i cs t fz hw
      simp only [Option.some.injEq] at hv
      subst hv
      exact ⟨t, fz, hw⟩
    · cases hv
  have one : ∀ {cs : Array Value} {v : Value}, cs.toList = [v] → cs = #[v] := fun h => by apply Array.ext'; rw [h]
  have s0 : ∃ v, cs0.toList = [v] := by obtain ⟨A, cap, h, _⟩ := r0; exact ⟨_, h⟩
  have s1 : ∃ v, cs1.toList = [v] := by obtain ⟨A, cap, h, _⟩ := r1; exact ⟨_, h⟩
  obtain ⟨v0, s0⟩ := s0
  obtain ⟨v1, s1⟩ := s1
  obtain ⟨t0, z0, w0⟩ := hvar hg0 hv0
  obtain ⟨t1, z1, w1⟩ := hvar hg1 hv1
  rw [one s0] at w0
  rw [one s1] at w1
  rw [s0] at r0
  rw [s1] at r1
  refine ⟨fun g => ?_, ?_⟩
  · unfold gl
    split
    · rename_i h; subst h; exact glob_strs w0 r0
    · split
      · rename_i h; subst h; exact glob_strs w1 r1
      · exact .any _
  · show ∃ m t fz, W.heap[2]? = some (.cells #[.int .i64 m] t fz)
    have hs3 : cs2.size = 1 := hs2
    have hc : cs2 = #[.int .i64 m] := by
      have h0 : cs2[0]? = some (.int .i64 m) := by simpa [World.cell?, hh2] using hm
      apply Array.ext
      · simp [hs3]
      · intro i h1 h2
        have : i = 0 := by simp at h2; omega
        subst this
        have := Array.getElem?_eq_getElem (xs := cs2) (i := 0) h1
        rw [h0] at this
        simpa using this.symm
    rw [hc] at hh2
    exact ⟨m, _, _, hh2⟩

theorem lifted (os : Os) (started : os.Started) (H : Type) (enc : TypeId × Value → H) :
    ReturnsInHanded {} Tryd.checked os 7 .any (fun w args => (Rows.fnRulesBackSpec.pre enc Tryd.prog Tryd.f7 [] false w args ∧ laidMetH Tryd.prog laidL w) ∧ sizedMet enc Tryd.prog Tryd.f7 (OpenSpec.ofChange Rows.fnRulesBackSpec) false w args)
      (Rows.fnRulesBackSpec.post enc Tryd.prog Tryd.f7 false true false false) := by
  refine rets_and (C := Tryd.checked) (X := fun w _ => laidMetH Tryd.prog laidL w) (fun _ _ _ hh h => h.of_heap hh) own started (by kernel_rfl) Tryd.func7
    (ChangeSpec.witness_shaped (enc := enc) (C := Tryd.checked) (os := os) (X := fun w _ => laidMetH Tryd.prog laidL w) false (laidW os) #[.slice none 0 0, .slice none 0 0] 8 rfl (World.shaped_of_RefB (by kernel_rfl) (by kernel_rfl)) (by kernel_rfl) (by kernel_rfl) (by kernel_rfl) (door_met os _)) ?_
  intro W base args ds gs before hval0 hW hL hS
  have hval : ∀ (j : Nat) t v, Tryd.f7.params[j]? = some t → args[j]? = some v → Value.okWide Tryd.prog W .any base t v := hval0
  have hW' := hW
  obtain ⟨p, q, hA0, hV, rfl, hfz, hnd⟩ := hW
  have hA : DataW.TrodAll enc Tryd.prog W 0 (fun _ => true) true Tryd.f7.params.toList args.toList ds p := hA0
  have hA1 := hA
  rw [Tryd.params7] at hA1
  obtain ⟨w0, vs0, e0, ds0, p0, q0, hargs, rfl, hp0, h0, r0⟩ := trodAll_cons hA1
  obtain ⟨w1, vs1, e1, ds1, p1, q1, rfl, rfl, hp1, h1, r1⟩ := trodAll_cons r0
  obtain ⟨_, rfl, _⟩ := trodAll_nil r1
  have hV1 : DataW.TrodVars enc Tryd.prog W (fun _ => true) [_, _] gs q := hV
  obtain ⟨ga, gb, rfl⟩ : ∃ a b, gs = [a, b] := by
    match gs, hV1 with
    | [a, b], _ => exact ⟨a, b, rfl⟩
    | [], h => exact h.elim
    | [a], h => obtain ⟨_, _, _, _, _, _, _, _, _, _, h, _⟩ := h; exact h.elim
    | a :: b :: c :: r, h =>
      obtain ⟨_, _, _, _, _, _, _, _, _, _, h, _⟩ := h
      obtain ⟨_, _, _, _, _, _, _, _, _, _, h, _⟩ := h
      exact h.elim
  refine (law_callsG law7_ok (fun _ => trivial) (fun _ => rfl) (ts := Tryd.f7.params.toList) (by kernel_rfl) laidOut hA
    (fun j t v h1 h2 => hval j t v (by simpa using h1) (by simpa using h2)) (of_laid hL hS)).mono fun e W' ⟨he, bel, hB⟩ => ?_
  subst he
  exact ⟨_, rfl, _, _, _, [], _, _, hW', trodAll_mk1 (shut_bool Tryd.underlying4 _), hB, Below.trodVars laidOut bel (by kernel_rfl) hV, bel.frame _, fun h => by cases h⟩

theorem over : Rows.fnRulesBackRow.holds Tryd.pinned (OpenSpec.ofChange Rows.fnRulesBackSpec) :=
  OpenClaim.holds_of_wide 7 Tryd.f7 rfl rfl rfl rfl rfl rfl rfl ⟨rfl, rfl, rfl, rfl, rfl⟩ rfl rfl rfl rfl rfl (by kernel_rfl) Tryd.func7 (by kernel_rfl)
    (of_decide_eq_true (by kernel_rfl)) (by unfold Func.isWrapper; first | (rw [if_pos (by decide +kernel)]; kernel_rfl) | (rw [if_neg (by decide +kernel)]; exact ⟨rfl, rfl⟩))
    (fun os started H enc _ => lifted os started H enc)

/-- The given statement. -/
theorem proved : Rows.FnRulesBackCardSaid :=
  Claim7.holds_tied_plain_at .later [] Rows.fnRulesBackCard.laidKinds true Rows.fnRulesBackCard.stood.harness false
    over (fun _ h => by cases h) (by kernel_rfl) (fun _ h => by cases h) fnRulesBack_row_tie rfl ⟨rfl, rfl⟩ (by kernel_rfl) rfl
    (fun f fn hf hfn => by
      obtain rfl : f = 7 := Option.some.inj ((show Tryd.prog.funcNamed Rows.fnRulesBackRow.func = some 7 by kernel_rfl).symm.trans hf) |>.symm
      obtain rfl : fn = Tryd.f7 := (Option.some.inj (Tryd.func7.symm.trans hfn)).symm
      exact ⟨by kernel_rfl, fun j t ht => by
        have hm : t ∈ Tryd.f7.params.toList := by simpa using Array.mem_of_getElem? ht
        have hall : (Tryd.f7.params.toList.all fun u => !Tryd.prog.wantsStandIn u) = true := by kernel_rfl
        exact (show Tryd.prog.wantsStandIn t = false by simpa using List.all_eq_true.1 hall t hm)⟩)
    (by kernel_rfl)
end Go.Proofs.YtmbnmbgihcmapaaDoor.fnRulesBack
