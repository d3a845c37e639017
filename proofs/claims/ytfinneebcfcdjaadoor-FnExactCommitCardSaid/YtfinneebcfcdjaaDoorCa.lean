/- Commit: the small contracts; decimal numerals. -/
import Derived.Test.YtfinneebcfcdjaaDoorNa
import Derived.Shelf.LaysM
import Derived.Shelf.Strconv.Itoa3
namespace Go.Proofs.YtfinneebcfcdjaaDoor
open Go Go.RowKit
set_option linter.all false
set_option pp.deepTerms true
set_option pp.maxSteps 200000
set_option maxRecDepth 100000
set_option maxHeartbeats 4000000
def slotB (s : T30.D) : Bool := nameB s.1 && inB s.2 0 49
def wSlot : Spec [(true, T30)] := ⟨fun _ => True, fun x _ => .bool (slotB x.1), fun _ => []⟩
def wTime : Spec [(false, .int .i64)] := ⟨fun _ => True, fun x _ => .bool (inB x.1 0 1000000000000), fun _ => []⟩
def wOff : Spec [(false, .int .i64)] := ⟨fun _ => True, fun x _ => .bool (inB x.1 0 1000000000), fun _ => []⟩
theorem f18_ok : FSpecOk Tryd.prog 18 wTime := by
  intro x n hp
  obtain ⟨a, u⟩ := x; change Int at a
  refine FnOk_intro [.one .w] Tryd.func18 rfl ?_
  intro hw C hC
  refine ACode_ok (τ := tau) (noC_ok : CtrsOk Tryd.prog noC) mixed _ _ _ ?_
  simp [Tryd.f18, wTime, inB]
  simp [↓retQ_ret, ↓retQ_normal]
theorem f17_ok : FSpecOk Tryd.prog 17 wOff := by
  intro x n hp
  obtain ⟨a, u⟩ := x; change Int at a
  refine FnOk_intro [.one .w] Tryd.func17 rfl ?_
  intro hw C hC
  refine ACode_ok (τ := tau) (noC_ok : CtrsOk Tryd.prog noC) mixed _ _ _ ?_
  simp [Tryd.f17, wOff, inB]
  simp [↓retQ_ret, ↓retQ_normal]
theorem f16_ok : FSpecOk Tryd.prog 16 wSlot := by
  intro x n hp
  obtain ⟨⟨a, i⟩, u⟩ := x; change List UInt8 at a; change Int at i
  refine FnOk_intro [.one .w] Tryd.func16 rfl ?_
  intro hw C hC
  refine ACode_ok (τ := tau) (CtrOk.add f15_ok rfl (CtrOk.add f25_ok rfl (noC_ok : CtrsOk Tryd.prog noC))) mixed _ _ _ ?_
  simp [Tryd.f16, wSlot, wN, wB]
  simp [↓retQ_ret, ↓retQ_normal, slotB]
theorem f12_ok : FSpecOk Tryd.prog 12 wSlot := by
  intro x n hp
  obtain ⟨⟨a, i⟩, u⟩ := x; change List UInt8 at a; change Int at i
  refine FnOk_intro [.one .w] Tryd.func12 rfl ?_
  intro hw C hC
  refine ACode_ok (τ := tau) (CtrOk.add f11_ok rfl (CtrOk.add f13_ok rfl (noC_ok : CtrsOk Tryd.prog noC))) mixed _ _ _ ?_
  simp [Tryd.f12, wSlot, wN, wB]
  simp [↓retQ_ret, ↓retQ_normal, slotB]
/-! ### Decimal numerals -/
theorem decDigits_le : ∀ (k u : Nat), u < 10 ^ (k + 1) → (Lib.decDigits u).length ≤ k + 1
  | 0, u, h => by rw [Lib.decDigits, dif_pos (by simpa using h)]; simp
  | k + 1, u, h => by
    rw [Lib.decDigits]
    split
    · simp
    · rw [List.length_append]
      have := decDigits_le k (u / 10) (by rw [Nat.pow_succ] at h; omega)
      simp; omega
theorem itoa_len {n : Int} (h : inR .i64 n) : (Lib.itoa n).length ≤ 21 := by
  simp only [inR] at h
  unfold Lib.itoa
  have h1 := decDigits_le 19 n.natAbs (by omega)
  have h2 := decDigits_le 19 n.toNat (by omega)
  split
  · simp; omega
  · omega
theorem wrapu_id {e : Int} (h : 0 ≤ e ∧ e ≤ 18446744073709551615) : IntKind.wrap .u64 e = e := by
  simp [IntKind.wrap, IntKind.bits, IntKind.signed]; omega
theorem wrap8_id {e : Int} (h : 0 ≤ e ∧ e ≤ 255) : IntKind.wrap .u8 e = e := by
  simp [IntKind.wrap, IntKind.bits, IntKind.signed]; omega
theorem digit_w {v : Nat} (h : v ≤ 9) : UInt8.ofNat (IntKind.u8.wrap (IntKind.u64.wrap (48 + (v : Int)))).toNat = UInt8.ofNat (48 + v) := by
  rw [wrapu_id (by omega), wrap8_id (by omega)]
  congr 1
def wIt : Spec [(false, .int .i64)] := ⟨fun _ => True, fun x _ => .str (Lib.itoa x.1), fun _ => []⟩
theorem f14_ok : FSpecOk Tryd.prog 14 wIt := by
  intro x n hp
  obtain ⟨a, u⟩ := x; change Int at a
  refine FnOk_intro [.one .w] Tryd.func14 rfl ?_
  intro hw C hC
  have hr : -9223372036854775808 ≤ a ∧ a ≤ 9223372036854775807 := by simpa [inR] using hw
  have hΓ := (noC_ok : CtrsOk Tryd.prog noC)
  obtain ⟨U, hU⟩ : ∃ U : Nat, U = a.natAbs := ⟨_, rfl⟩
  refine AWp_cut hΓ mixed tau ⟨[.int .i64 a, .any, .str []] ++ List.replicate 35 .any, []⟩ True [] (by simp [hC]) ?_ fun _ => ?_
  · simp [Tryd.f14, maxB]
  refine AWp_cut hΓ mixed tau ⟨[.int .i64 a, .any, .str [], .int .u64 (IntKind.u64.wrap a)] ++ List.replicate 34 .any, []⟩ True [] (by simp [hC]) ?_ fun _ => ?_
  · simp
  refine AWp_cut hΓ mixed tau ⟨[.int .i64 a, .any, .str [], .int .u64 (IntKind.u64.wrap a), .str []] ++ List.replicate 33 .any, []⟩ True [] (by simp [hC]) ?_ fun _ => ?_
  · simp [maxB]
  refine AWp_cut hΓ mixed tau ⟨[.int .i64 a, .any, .str [], .int .u64 (U : Int), .str []] ++ List.replicate 33 .any, []⟩ True [] (by simp [hC]) ?_ fun _ => ?_
  · simp
    refine ⟨fun h => ?_, fun h => ?_⟩
    · rw [wrap64_id (e := a + 1) (by omega), wrap64_id (by omega), wrapu_id (e := -(a + 1)) (by omega), wrapu_id (by omega)]; omega
    · rw [wrapu_id (by omega)]; omega
  refine AWp_cutE hΓ mixed tau (fun y : Nat × List UInt8 => ⟨[.int .i64 a, .any, .str [], .int .u64 (y.1 : Int), .str y.2] ++ List.replicate 33 .any, []⟩) (fun y => y.1 ≤ 9 ∧ Lib.decDigits y.1 ++ y.2 = Lib.decDigits U) ?_ ?_
  · simp
    refine AWp_loop_ind hΓ mixed tau (fun y : Nat × List UInt8 => ⟨[.int .i64 a, .any, .str [], .int .u64 (y.1 : Int), .str y.2] ++ List.replicate 33 .any, []⟩) (fun y => y.1) (fun y => y.1 ≤ U ∧ Lib.decDigits y.1 ++ y.2 = Lib.decDigits U) (U, []) [] ?_ ?_ ?_
    · simp [hC]
    · simp
    rintro ⟨v, s⟩ ⟨hv, he⟩
    have hs : s.length ≤ 21 := by
      have := congrArg List.length he
      have h2 := decDigits_le 19 U (by omega)
      simp only [List.length_append] at this; omega
    have e1 : (v : Int).tmod 10 = ((v % 10 : Nat) : Int) := by rw [Int.tmod_eq_emod_of_nonneg (by omega)]; omega
    have e2 := digit_w (v := v % 10) (by omega)
    simp only at hv he
    simp [maxB, e1]
    refine ⟨fun h => ⟨⟨by omega, by omega⟩, by omega, v / 10, UInt8.ofNat (48 + v % 10) :: s, ⟨by omega, ?_⟩, by omega, [], by simp [hC], by decide, ⟨?_, ?_⟩, by simp [leH]⟩, fun h => ⟨v, s, ⟨by omega, he⟩, [], by simp [hC], by decide, ⟨rfl, rfl⟩, by simp [leH]⟩⟩
    · rw [Lib.decDigits, dif_neg (by omega)] at he
      simpa using he
    · rw [wrapu_id (by omega)]; omega
    · rw [← e2]; simp
  · rintro ⟨v, s⟩ ⟨hv, he⟩
    have hs : s.length ≤ 21 := by
      have := congrArg List.length he
      have h2 := decDigits_le 19 U (by omega)
      simp only [List.length_append] at this; omega
    simp only at hv he
    rw [Lib.decDigits_one (by omega)] at he
    have e2 := digit_w (v := v) (by omega)
    have hI : Lib.itoa a = if a < 0 then 45 :: Lib.decDigits U else Lib.decDigits U := by
      unfold Lib.itoa
      rw [hU]
      split
      · rfl
      · congr 1; omega
    have hz : Lib.itoa a = if a < 0 then 45 :: UInt8.ofNat (IntKind.u8.wrap (IntKind.u64.wrap (48 + (v : Int)))).toNat :: s else UInt8.ofNat (IntKind.u8.wrap (IntKind.u64.wrap (48 + (v : Int)))).toNat :: s := by
      rw [hI, ← he, e2]; rfl
    refine ACode_ok (τ := tau) hΓ mixed _ _ _ ?_
    simp [maxB]
    refine ⟨by omega, fun h => ⟨by omega, ?_⟩, fun h => ?_⟩
    · rw [if_pos h] at hz
      simp [↓retQ_ret, ↓retQ_normal, wIt, hz]
    · rw [if_neg (by omega)] at hz
      simp [↓retQ_ret, ↓retQ_normal, wIt, hz]
/-- A call that makes nothing that is handed back, and hands back one word. -/
theorem FnOk.of_word {P : Program} {f : FuncId} {args : List AV} {n : Nat} {res : AV} (h : ∀ (w : World) (Φ : Nat → Option Obj) (vs : Array Value), (∀ b o, Φ b = some o → w.heap[b]? = some o) → GlOk Φ → vs.size = args.length → (∀ (i : Nat) c v, args[i]? = some c → vs[i]? = some v → CVal Φ [] c v) →
    Calls P f vs w fun e w' => ∃ v, e = .returned v ∧ Below w.heap.size w w' ∧ ∀ Φ L, CVal Φ L res v) : FnOk P f args n res [] := by
  intro w Φ L vs hL hf hg hsz hv
  refine (h w Φ vs hf hg hsz hv).mono fun e w' ⟨v, he, hb, hc⟩ => ⟨v, Φ, [], he, hb, More.refl _, fun b o hbo => ?_, fun b o hbo => .inl hbo, ⟨rfl, fun i o ho => by simp at ho, fun i o g cap ho => by simp at ho, fun i j o o' g cap cap' _ ho => by simp at ho, fun _ => [], fun i o ho => by simp at ho⟩, hc _ _⟩
  rw [hb.block b (lt_of_block (hf b o hbo))]; exact hf b o hbo
def laysM171_ren : Go.Shelf.Ren := ⟨fun | 171 => 19 | 243 => 26 | 246 => 29 | 283 => 30 | 284 => 31 | 285 => 32 | 286 => 33 | 129 => 35 | 317 => 34 | 318 => 36 | 319 => 37 | 320 => 38 | 337 => 39 | 338 => 40 | n => n, fun | 3 => 3 | 9 => 9 | 2 => 2 | 4 => 4 | 171 => 49 | 0 => 0 | 53 => 42 | 37 => 43 | 5 => 5 | 173 => 52 | 212 => 56 | 51 => 57 | 20 => 20 | 213 => 58 | 46 => 59 | 232 => 62 | 233 => 63 | n => n, fun | 17 => 0 | 18 => 1 | 19 => 2 | n => n⟩
theorem laysM171 : Go.Proofs.LaysM.n171 Tryd.prog laysM171_ren := {
  mixed := by kernel_rfl
  f129 := Tryd.func35.trans (congrArg some (by kernel_rfl))
  f171 := Tryd.func19.trans (congrArg some (by kernel_rfl))
  f243 := Tryd.func26.trans (congrArg some (by kernel_rfl))
  f246 := Tryd.func29.trans (congrArg some (by kernel_rfl))
  f283 := Tryd.func30.trans (congrArg some (by kernel_rfl))
  f284 := Tryd.func31.trans (congrArg some (by kernel_rfl))
  f285 := Tryd.func32.trans (congrArg some (by kernel_rfl))
  f286 := Tryd.func33.trans (congrArg some (by kernel_rfl))
  f317 := Tryd.func34.trans (congrArg some (by kernel_rfl))
  f318 := Tryd.func36.trans (congrArg some (by kernel_rfl))
  f319 := Tryd.func37.trans (congrArg some (by kernel_rfl))
  f320 := Tryd.func38.trans (congrArg some (by kernel_rfl))
  f337 := Tryd.func39.trans (congrArg some (by kernel_rfl))
  f338 := Tryd.func40.trans (congrArg some (by kernel_rfl))
  t0 := Tryd.underlying0
  a0 := Tryd.isAgg0
  z0 := Tryd.sizeOf0
  v0 := Tryd.zeroValue0
  t2 := Tryd.underlying2
  a2 := Tryd.isAgg2
  z2 := Tryd.sizeOf2
  v2 := Tryd.zeroValue2
  t3 := Tryd.underlying3
  a3 := Tryd.isAgg3
  z3 := Tryd.sizeOf3
  v3 := Tryd.zeroValue3
  t4 := Tryd.underlying4
  a4 := Tryd.isAgg4
  z4 := Tryd.sizeOf4
  v4 := Tryd.zeroValue4
  t5 := Tryd.underlying5
  a5 := Tryd.isAgg5
  z5 := Tryd.sizeOf5
  v5 := Tryd.zeroValue5
  t9 := Tryd.underlying9
  a9 := Tryd.isAgg9
  z9 := Tryd.sizeOf9
  v9 := Tryd.zeroValue9
  t20 := Tryd.underlying20
  a20 := Tryd.isAgg20
  z20 := Tryd.sizeOf20
  v20 := Tryd.zeroValue20
  t37 := Tryd.underlying43
  a37 := Tryd.isAgg43
  z37 := Tryd.sizeOf43
  v37 := Tryd.zeroValue43
  t46 := Tryd.underlying59
  a46 := Tryd.isAgg59
  z46 := Tryd.sizeOf59
  v46 := Tryd.zeroValue59
  t51 := Tryd.underlying57
  a51 := Tryd.isAgg57
  z51 := Tryd.sizeOf57
  v51 := Tryd.zeroValue57
  t53 := Tryd.underlying42
  a53 := Tryd.isAgg42
  z53 := Tryd.sizeOf42
  v53 := Tryd.zeroValue42
  t171 := Tryd.underlying49
  a171 := Tryd.isAgg49
  z171 := Tryd.sizeOf49
  v171 := Tryd.zeroValue49
  t173 := Tryd.underlying52
  a173 := Tryd.isAgg52
  z173 := Tryd.sizeOf52
  v173 := Tryd.zeroValue52
  t212 := Tryd.underlying56
  a212 := Tryd.isAgg56
  z212 := Tryd.sizeOf56
  v212 := Tryd.zeroValue56
  t213 := Tryd.underlying58
  a213 := Tryd.isAgg58
  z213 := Tryd.sizeOf58
  t232 := Tryd.underlying62
  a232 := Tryd.isAgg62
  z232 := Tryd.sizeOf62
  v232 := Tryd.zeroValue62
  t233 := Tryd.underlying63
  a233 := Tryd.isAgg63
  z233 := Tryd.sizeOf63
  v233 := Tryd.zeroValue63
  g17 := by kernel_rfl
  g18 := by kernel_rfl
  g19 := by kernel_rfl
  i0 := by kernel_rfl
  i2 := by kernel_rfl
  i3 := by kernel_rfl
  i4 := by kernel_rfl
  i5 := by kernel_rfl
  i9 := by kernel_rfl
  i20 := by kernel_rfl
  i37 := by kernel_rfl
  i46 := by kernel_rfl
  i51 := by kernel_rfl
  i53 := by kernel_rfl
  i171 := by kernel_rfl
  i173 := by kernel_rfl
  i212 := by kernel_rfl
  i232 := by kernel_rfl
  i233 := by kernel_rfl
  m17 := by kernel_rfl
  m18 := by kernel_rfl
  m19 := by kernel_rfl }
theorem below_grow (w : World) (k : Nat) (os : Array Obj) : Below w.heap.size w (Go.Sort.grow (w.drewN k) os) :=
  ⟨rfl, rfl, rfl, by simp [Go.Sort.grow, World.drewN], fun i hi => by show (w.heap ++ os)[i]? = w.heap[i]?; rw [Array.getElem?_append_left hi]⟩
theorem tab_of {w : World} {name : String} {t : TypeId} {fz : Nat × Nat} (hn : Tryd.prog.globalNamed name = some 0) (hw : w.heap[0]? = some (.cells (pow10L.map fun z => Value.int .u64 z).toArray t fz)) : Lib.TabIs Tryd.prog w name .u64 Lib.pow10Tab := by
  have e : pow10L = Lib.pow10Tab := by decide +kernel
  unfold Lib.TabIs World.var?
  rw [hn, ← e]
  simp [hw]
theorem f19_ok : FSpecOk Tryd.prog 19 wIt := by
  intro x n hp
  obtain ⟨a, u⟩ := x; change Int at a
  refine FnOk.of_word fun w Φ vs hf hg hsz hv => ?_
  have hs1 : vs.size = 1 := hsz
  have h0 := hv 0 (.int .i64 a) vs[0] rfl (Array.getElem?_eq_getElem (by omega))
  have e : vs = #[vs[0]] := by
    apply Array.ext
    · simp [hs1]
    · intro i h1 h2
      have : i = 0 := by simp at h2; omega
      subst this; rfl
  generalize vs[0] = v0 at *
  subst e
  cases h0 with
  | int _ _ hr =>
  simp only [inR] at hr
  obtain ⟨t, fz, hx⟩ := hg.2
  refine (Any.strconv_Itoa laysM171 a hr.1 hr.2 w (tab_of (by kernel_rfl) (hf 0 _ hx))).mono fun e w' ⟨he, k, os, hw⟩ => ?_
  subst hw
  exact ⟨_, he, below_grow w k os, fun Φ L => .str _ (by have := itoa_len (n := a) (by simp only [inR]; exact hr); show (Lib.itoa a).length ≤ maxB; unfold maxB; omega)⟩
end Go.Proofs.YtfinneebcfcdjaaDoor
