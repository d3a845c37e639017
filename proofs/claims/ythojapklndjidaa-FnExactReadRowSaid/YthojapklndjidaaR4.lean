/- The row of the law FnExactReadRow: for all arguments that the row lets in the program's ReadRow and the reference's answer alike. -/
import Derived.Test.YthojapklndjidaaRx
import Derived.Test.YthojapklndjidaaRy
import Derived.Test.YthojapklndjidaaFz
import Derived.Test.YthojapklndjidaaRows
import Derived.WalkKit
import Derived.ProofKit
import Derived.OpenShut
import Derived.ShutString
import Derived.ChangeOld
import Derived.Below
namespace Go.Proofs.Ythojapklndjidaa
open Go Go.RowKit
set_option linter.all false
set_option pp.deepTerms true
set_option pp.maxSteps 200000
theorem itemsR_len {k : Int} {b : List UInt8} : ∀ (n : Nat) (a : Int), (itemsR k b n a).1.length ≤ n
  | 0, a => by simp [itemsR]
  | n + 1, a => by
    have ih := itemsR_len (k := k) (b := b) n (itemR k b a).2.1
    unfold itemsR
    split
    · simp
    · split
      · simp
      · simp only [List.length_cons]; omega
theorem bodyR_items {f : FldX} {b : List UInt8} {a : Int} : (bodyR f b a).1.2.2.2.2.length ≤ 30 := by
  unfold bodyR
  split
  · split
    · simp
    · split
      · simp
      · rename_i h
        have hm : inB (numR b a).1 0 30 = true := by simpa using h
        have hm : 0 ≤ (numR b a).1 ∧ (numR b a).1 ≤ 30 := by simpa [inB] using hm
        have := itemsR_len (k := f.2.1) (b := b) (numR b a).1.toNat (numR b a).2.1
        simp only; omega
  · simp
theorem fieldR_items {f : FldX} {b : List UInt8} {a : Int} : (fieldR f b a).1.2.2.2.2.length ≤ 30 := by
  unfold fieldR
  split
  · split
    · simp
    · split
      · simp
      · split
        · simp
        · exact bodyR_items
  · exact bodyR_items
theorem rowR_items {b : List UInt8} : ∀ (fs : List FldX) (a : Int), (rowR b fs a).1.length ≤ fs.length ∧ ∀ v ∈ (rowR b fs a).1, v.2.2.2.2.length ≤ 30
  | [], a => by simp [rowR]
  | f :: fs, a => by
    obtain ⟨i1, i2⟩ := rowR_items (b := b) fs (fieldR f b a).2.1
    unfold rowR
    split
    · simp
    · split
      · simp
      · refine ⟨by simp only [List.length_cons]; omega, fun v hv => ?_⟩
        rcases List.mem_cons.1 hv with h | h
        · rw [h]; exact fieldR_items
        · exact i2 v h
theorem readV_items (id : Int) (s : T32.D) (b : List UInt8) : (readV id s b).1.length ≤ 20 ∧ ∀ v ∈ (readV id s b).1, v.2.2.2.2.length ≤ 30 := by
  unfold readV
  split
  · rename_i h
    have h20 : s.2.length ≤ 20 := schema_len20 h.1
    split
    · simp only
      split
      · simp
      · split
        · simp
        · obtain ⟨i1, i2⟩ := rowR_items (b := b) s.2 (putL id).length
          exact ⟨by simp only; omega, i2⟩
    · simp
  · simp
theorem cnt_it (l : List T76.D) : cntE (.sl T76) l = 2 * l.length := by
  induction l with
  | nil => rfl
  | cons x xs ih =>
    have e : cntE (.sl T76) (x :: xs) = (1 + 1) + cntE (.sl T76) xs := by rw [cntE_sl, cntE_sl, List.map_cons, List.sum_cons]; rfl
    rw [e, ih, List.length_cons]; omega
theorem cnt_val (v : T70.D) : cntE T70 v = 4 + 2 * v.2.2.2.2.length := by
  have := cnt_it v.2.2.2.2
  show 1 + (1 + (1 + (1 + cntE (.sl T76) v.2.2.2.2))) = _
  omega
theorem cnt_vals : ∀ {l : List T70.D}, (∀ v ∈ l, v.2.2.2.2.length ≤ 30) → cntE (.sl T70) l ≤ 64 * l.length
  | [], _ => by simp [cntE]
  | x :: xs, h => by
    have ih := cnt_vals (l := xs) fun v hv => h v (List.mem_cons_of_mem _ hv)
    have hx := h x (List.mem_cons_self ..)
    have hv := cnt_val x
    have e : cntE (.sl T70) (x :: xs) = cntE T70 x + cntE (.sl T70) xs := by rw [cntE_sl, cntE_sl, List.map_cons, List.sum_cons]
    rw [e, List.length_cons]; omega
theorem cnt_bytes (l : List UInt8) : cntE (.sl .byte) l = l.length := by
  induction l with
  | nil => rfl
  | cons x xs ih =>
    have e : cntE (.sl .byte) (x :: xs) = 1 + cntE (.sl .byte) xs := by rw [cntE_sl, cntE_sl, List.map_cons, List.sum_cons]; rfl
    rw [e, ih, List.length_cons]; omega
def law4 : Spec [(false, (Ty.int .i64)), (true, T24), (false, (Ty.sl Ty.byte))] := ⟨fun _ => True, fun _ _ => .bool true, fun _ => []⟩
set_option maxHeartbeats 8000000 in
set_option maxRecDepth 100000 in
theorem law4_ok : FSpecOk Try.prog 4 law4 := by
  intro x n hp
  obtain ⟨id, ⟨nr, fr⟩, b, u⟩ := x; change Int at id; change List UInt8 at nr b; change List T73.D at fr
  refine FnOk_intro [.one .w] Try.func4 rfl ?_
  intro hw C hC
  have hr : -9223372036854775808 ≤ id ∧ id ≤ 9223372036854775807 := by simp [inR] at hw; omega
  have hΓ := (CtrsOk.addP (id := 13) (p := .take 0 (.take 1 (.one 2 (.one 3 (.one 4 .done))))) (CtrOk.add c6_ok rfl (CtrsOk.addZ k9_ok rfl (CtrsOk.addH c9_ok rfl (CtrsOk.addZ k20_ok rfl (CtrsOk.addH c20_ok rfl (CtrOk.add f19_ok rfl (CtrOk.add f21_ok rfl (CtrOk.add c14_ok rfl (CtrOk.add c13_ok rfl (CtrOk.add c12_ok rfl (CtrsOk.addH c15_ok rfl (CtrsOk.addH c17_ok rfl (CtrsOk.addH c16_ok rfl (CtrOk.add c22_ok rfl (noC_ok : CtrsOk Try.prog noC))))))))))))))))
  refine ACode_ok (τ := tau) hΓ mixed _ _ _ ?_
  simp (maxSteps := 8000000) [Try.f4, law4, c22, c16, c17, c15, c12, c13, c14, wRead, c20, k20, c9, k9, c6]
  intro _
  refine ⟨fun h => by simp [↓retQ_ret], fun hb => ?_⟩
  have bB : Bnd (.sl .byte) b := ⟨by omega, fun x _ => trivial⟩
  refine ⟨fun h => by simp [↓retQ_ret], fun h0 => ?_⟩
  have b1 := bnd_szr (T := T24) (x := (nr, fr)) (by omega) h0
  have d1 : cntE T32 (nr, fr) ≤ wid T24 * 1048577 := cnt_szr (T := T24) (x := (nr, fr)) (by omega) h0
  have d3 := cntV_le T32 (nr, fr)
  have v1 := mkV_snd T32 (nr, fr)
  simp only [wid] at d1
  have d5 := cnt_bytes b
  obtain ⟨e6, e7⟩ := readV_items id (nr, fr) b
  have e5 := cnt_vals e7
  clear e7
  generalize readV id (nr, fr) b = V at *
  obtain ⟨R, c⟩ := V
  simp only at e5 e6 ⊢
  have e0 := take_mk (T := T70) R 1
  have e1 := hd_again (T := T70) R 1
  have e2 := cnt_again (T := T70) R 1
  have e3 := fun (G : List T70.D) k => mkL_snd' (T := T70) G k
  have e4 := fun (G : List T70.D) k => mkL_length (f := mkE T70) G k
  have v3 := fun k => mkL_snd' (T := .byte) b k
  simp only [e0, e1, e2, e3, e4, v1, v3]
  repeat' first
    | exact b1.1
    | exact bB
    | omega
    | (show (_ : Bool) = true; kernel_rfl)
    | (show Region.lexB .any _ = true; kernel_rfl)
    | (simp [↓retQ_ret]; done)
    | with_reducible refine And.intro ?_ ?_
    | intro _
  all_goals trace_state
end Go.Proofs.Ythojapklndjidaa

namespace Go.Proofs.Ythojapklndjidaa.fnExactReadRow
open Go Go.ChangeShapes Go.WideShapes Go.ChangeAt Go.RowKit Go.Proofs.Ythojapklndjidaa
set_option linter.unusedVariables false
set_option linter.all false

theorem own : ownKnob Try.prog.godebug = none := by kernel_rfl
theorem laidOut : laidOutB Try.prog = true := by kernel_rfl

set_option maxRecDepth 100000 in
theorem lifted (os : Os) (started : os.Started) (H : Type) (enc : TypeId × Value → H) :
    ReturnsInHanded {} Try.checked os 4 .any (Rows.fnExactReadRowSpec.pre6 enc Try.prog Try.f4 Rows.fnExactReadRowRow.domain false) (Rows.fnExactReadRowSpec.post enc Try.prog Try.f4 false true false false) := by
  refine returnsInHanded_of_change (C := Try.checked) own started (by kernel_rfl) Try.func4
    (ChangeSpec.witness6 (enc := enc) (C := Try.checked) false ⟨#[], #[.int .i64 0,  .agg #[.string ByteArray.empty, .slice none 0 0],  .slice none 0 0], []⟩ 8 (by kernel_rfl) (by kernel_rfl) (by kernel_rfl) (by kernel_rfl)) ?_
  intro W base args ds gs before hval0 hW hcnd _
  have hval : ∀ (j : Nat) t v, Try.f4.params[j]? = some t → args[j]? = some v → Value.okWide Try.prog W .any base t v := hval0
  have hW' := hW
  obtain ⟨p, q, hA0, hV, rfl, hfz, hnd⟩ := hW
  have hA : DataW.TrodAll enc Try.prog W 0 (fun _ => true) true Try.f4.params.toList args.toList ds p := hA0
  have hA1 := hA
  rw [Try.params4] at hA1
  obtain ⟨w0, vs0, e0, ds0, p0, q0, hargs, rfl, hp0, h0, r0⟩ := trodAll_cons hA1
  obtain ⟨w1, vs1, e1, ds1, p1, q1, rfl, rfl, hp1, h1, r1⟩ := trodAll_cons r0
  obtain ⟨w2, vs2, e2, ds2, p2, q2, rfl, rfl, hp2, h2, r2⟩ := trodAll_cons r1
  obtain ⟨_, rfl, _⟩ := trodAll_nil r2
  obtain ⟨rfl, rfl⟩ := trodVars_none hV
  refine (law_calls law4_ok (fun _ => trivial) (fun _ => rfl) (ts := Try.f4.params.toList) (by kernel_rfl) laidOut hA
    (fun j t v h1 h2 => hval j t v (by simpa using h1) (by simpa using h2))).mono fun e W' ⟨he, bel, hB⟩ => ?_
  subst he
  exact ⟨_, rfl, _, _, _, [], _, [], hW', trodAll_mk1 (shut_bool Try.underlying4 _), hB, rfl, bel.frame _, fun h => by cases h⟩

theorem over : Rows.fnExactReadRowRow.holds Try.pinned (OpenSpec.ofChange Rows.fnExactReadRowSpec) :=
  OpenClaim.holds_of_wide 4 Try.f4 rfl rfl rfl rfl rfl rfl rfl ⟨rfl, rfl, rfl, rfl, rfl⟩ rfl rfl rfl rfl rfl (by kernel_rfl) Try.func4 (by kernel_rfl)
    (of_decide_eq_true (by kernel_rfl)) (by unfold Func.isWrapper; first | (rw [if_pos (by decide +kernel)]; kernel_rfl) | (rw [if_neg (by decide +kernel)]; exact ⟨rfl, rfl⟩))
    (fun os started H enc _ => lifted os started H enc)

/-- The given statement. -/
theorem proved : Rows.FnExactReadRowSaid := over
end Go.Proofs.Ythojapklndjidaa.fnExactReadRow
