/- Parsing rules: strings.Cut, strings.Split and strings.CutSuffix, off the shelf. -/
import Derived.Test.YtmbnmbgihcmapaaDoorPa
import Derived.Shelf.Small.Wraps
import Derived.Shelf.Strings.Cut
import Derived.Shelf.Strings.Split
import Derived.Lib.SplitLaws
namespace Go.Proofs.YtmbnmbgihcmapaaDoor
open Go Go.RowKit
set_option linter.all false
set_option pp.deepTerms true
set_option pp.maxSteps 200000
set_option maxRecDepth 100000
set_option maxHeartbeats 8000000
def lays145_ren : Go.Shelf.Ren := ⟨fun | 145 => 47 | 220 => 59 | 219 => 64 | 217 => 68 | 225 => 69 | 224 => 70 | 267 => 71 | 266 => 76 | 314 => 77 | n => n, fun | 9 => 9 | 4 => 4 | 59 => 68 | 3 => 3 | 5 => 5 | 46 => 89 | 146 => 98 | 51 => 97 | n => n, fun | 1 => 2 | n => n⟩
theorem lays145 : Go.Proofs.Lays.n145 Tryd.prog lays145_ren := {
  mixed := by kernel_rfl
  f145 := Tryd.func47.trans (congrArg some (by kernel_rfl))
  f217 := Tryd.func68.trans (congrArg some (by kernel_rfl))
  f219 := Tryd.func64.trans (congrArg some (by kernel_rfl))
  f220 := Tryd.func59.trans (congrArg some (by kernel_rfl))
  f224 := Tryd.func70.trans (congrArg some (by kernel_rfl))
  f225 := Tryd.func69.trans (congrArg some (by kernel_rfl))
  f266 := Tryd.func76.trans (congrArg some (by kernel_rfl))
  f267 := Tryd.func71.trans (congrArg some (by kernel_rfl))
  f314 := Tryd.func77.trans (congrArg some (by kernel_rfl))
  t3 := Tryd.underlying3
  a3 := Tryd.isAgg3
  z3 := Tryd.sizeOf3
  v3 := Tryd.zeroValue3
  t4 := Tryd.underlying4
  a4 := Tryd.isAgg4
  z4 := Tryd.sizeOf4
  v4 := Tryd.zeroValue4
  t5 := Tryd.underlying5
  a5 := Tryd.isAgg5
  z5 := Tryd.sizeOf5
  v5 := Tryd.zeroValue5
  t9 := Tryd.underlying9
  a9 := Tryd.isAgg9
  z9 := Tryd.sizeOf9
  v9 := Tryd.zeroValue9
  t46 := Tryd.underlying89
  a46 := Tryd.isAgg89
  z46 := Tryd.sizeOf89
  v46 := Tryd.zeroValue89
  t51 := Tryd.underlying97
  a51 := Tryd.isAgg97
  z51 := Tryd.sizeOf97
  v51 := Tryd.zeroValue97
  t59 := Tryd.underlying68
  a59 := Tryd.isAgg68
  z59 := Tryd.sizeOf68
  v59 := Tryd.zeroValue68
  t146 := Tryd.underlying98
  a146 := Tryd.isAgg98
  z146 := Tryd.sizeOf98
  v146 := Tryd.zeroValue98
  g1 := by kernel_rfl }
def lays146_ren : Go.Shelf.Ren := ⟨fun | 146 => 60 | 221 => 65 | 268 => 72 | 138 => 73 | 143 => 74 | 195 => 78 | 197 => 79 | 218 => 80 | 219 => 64 | 260 => 81 | 217 => 68 | 225 => 69 | 224 => 70 | 267 => 71 | 266 => 76 | 314 => 77 | n => n, fun | 9 => 9 | 31 => 62 | 3 => 3 | 4 => 4 | 0 => 0 | 105 => 101 | 21 => 21 | 5 => 5 | 46 => 89 | 119 => 103 | 139 => 106 | 138 => 105 | 146 => 98 | 51 => 97 | n => n, fun | 1 => 2 | 3 => 3 | 4 => 4 | n => n⟩
theorem lays146 : Go.Proofs.Lays.n146 Tryd.prog lays146_ren := {
  mixed := by kernel_rfl
  f138 := Tryd.func73.trans (congrArg some (by kernel_rfl))
  f143 := Tryd.func74.trans (congrArg some (by kernel_rfl))
  f146 := Tryd.func60.trans (congrArg some (by kernel_rfl))
  f195 := Tryd.func78.trans (congrArg some (by kernel_rfl))
  f197 := Tryd.func79.trans (congrArg some (by kernel_rfl))
  f217 := Tryd.func68.trans (congrArg some (by kernel_rfl))
  f218 := Tryd.func80.trans (congrArg some (by kernel_rfl))
  f219 := Tryd.func64.trans (congrArg some (by kernel_rfl))
  f221 := Tryd.func65.trans (congrArg some (by kernel_rfl))
  f224 := Tryd.func70.trans (congrArg some (by kernel_rfl))
  f225 := Tryd.func69.trans (congrArg some (by kernel_rfl))
  f260 := Tryd.func81.trans (congrArg some (by kernel_rfl))
  f266 := Tryd.func76.trans (congrArg some (by kernel_rfl))
  f267 := Tryd.func71.trans (congrArg some (by kernel_rfl))
  f268 := Tryd.func72.trans (congrArg some (by kernel_rfl))
  f314 := Tryd.func77.trans (congrArg some (by kernel_rfl))
  t0 := Tryd.underlying0
  a0 := Tryd.isAgg0
  z0 := Tryd.sizeOf0
  v0 := Tryd.zeroValue0
  t3 := Tryd.underlying3
  a3 := Tryd.isAgg3
  z3 := Tryd.sizeOf3
  v3 := Tryd.zeroValue3
  t4 := Tryd.underlying4
  a4 := Tryd.isAgg4
  z4 := Tryd.sizeOf4
  v4 := Tryd.zeroValue4
  t5 := Tryd.underlying5
  a5 := Tryd.isAgg5
  z5 := Tryd.sizeOf5
  v5 := Tryd.zeroValue5
  t9 := Tryd.underlying9
  a9 := Tryd.isAgg9
  z9 := Tryd.sizeOf9
  v9 := Tryd.zeroValue9
  t21 := Tryd.underlying21
  a21 := Tryd.isAgg21
  z21 := Tryd.sizeOf21
  v21 := Tryd.zeroValue21
  t31 := Tryd.underlying62
  a31 := Tryd.isAgg62
  z31 := Tryd.sizeOf62
  v31 := Tryd.zeroValue62
  t46 := Tryd.underlying89
  a46 := Tryd.isAgg89
  z46 := Tryd.sizeOf89
  v46 := Tryd.zeroValue89
  t51 := Tryd.underlying97
  a51 := Tryd.isAgg97
  z51 := Tryd.sizeOf97
  v51 := Tryd.zeroValue97
  t105 := Tryd.underlying101
  a105 := Tryd.isAgg101
  z105 := Tryd.sizeOf101
  v105 := Tryd.zeroValue101
  t119 := Tryd.underlying103
  a119 := Tryd.isAgg103
  z119 := Tryd.sizeOf103
  t138 := Tryd.underlying105
  a138 := Tryd.isAgg105
  z138 := Tryd.sizeOf105
  v138 := Tryd.zeroValue105
  t139 := Tryd.underlying106
  a139 := Tryd.isAgg106
  z139 := Tryd.sizeOf106
  v139 := Tryd.zeroValue106
  t146 := Tryd.underlying98
  a146 := Tryd.isAgg98
  z146 := Tryd.sizeOf98
  v146 := Tryd.zeroValue98
  g1 := by kernel_rfl
  g3 := by kernel_rfl
  g4 := by kernel_rfl }
def lays104_ren : Go.Shelf.Ren := ⟨fun | 104 => 62 | 211 => 66 | 207 => 75 | n => n, fun | 9 => 9 | 4 => 4 | 24 => 49 | 3 => 3 | n => n, fun | n => n⟩
theorem lays104 : Go.Proofs.Lays.n104 Tryd.prog lays104_ren := {
  mixed := by kernel_rfl
  f104 := Tryd.func62.trans (congrArg some (by kernel_rfl))
  f207 := Tryd.func75.trans (congrArg some (by kernel_rfl))
  f211 := Tryd.func66.trans (congrArg some (by kernel_rfl))
  t3 := Tryd.underlying3
  a3 := Tryd.isAgg3
  z3 := Tryd.sizeOf3
  v3 := Tryd.zeroValue3
  t4 := Tryd.underlying4
  a4 := Tryd.isAgg4
  z4 := Tryd.sizeOf4
  v4 := Tryd.zeroValue4
  t9 := Tryd.underlying9
  a9 := Tryd.isAgg9
  z9 := Tryd.sizeOf9
  v9 := Tryd.zeroValue9
  t24 := Tryd.underlying49
  a24 := Tryd.isAgg49
  z24 := Tryd.sizeOf49
  v24 := Tryd.zeroValue49 }

theorem index_piece (c : UInt8) : ∀ s : List UInt8, (Lib.index s [c] = -1 ∧ ∀ d ∈ s, d ≠ c) ∨ ∃ u v : List UInt8, s = u ++ c :: v ∧ (∀ d ∈ u, d ≠ c) ∧ Lib.index s [c] = (u.length : Nat)
  | [] => .inl ⟨rfl, fun d h => by simp at h⟩
  | b :: s => by
    rw [Lib.index_one]
    unfold Lib.indexByte
    by_cases hb : b = c
    · exact .inr ⟨[], s, by simp [hb], fun d h => by simp at h, by simp [hb]⟩
    · have ih := index_piece c s
      rw [Lib.index_one] at ih
      rcases ih with ⟨h1, h2⟩ | ⟨u, v, h1, h2, h3⟩
      · refine .inl ⟨by simp [hb, h1], fun d h => ?_⟩
        rcases List.mem_cons.1 h with rfl | h
        · exact hb
        · exact h2 d h
      · refine .inr ⟨b :: u, v, by simp [h1], fun d h => ?_, ?_⟩
        · rcases List.mem_cons.1 h with rfl | h
          · exact hb
          · exact h2 d h
        · have : ¬ ((u.length : Nat) : Int) = -1 := by omega
          simp [hb, h3, this]
theorem cut_line (c : UInt8) (s : List UInt8) : ((Lib.cut s [c]).2.2 = false ∧ (Lib.cut s [c]).1 = s ∧ (Lib.cut s [c]).2.1 = [] ∧ ∀ d ∈ s, d ≠ c) ∨
    ((Lib.cut s [c]).2.2 = true ∧ s = (Lib.cut s [c]).1 ++ c :: (Lib.cut s [c]).2.1 ∧ ∀ d ∈ (Lib.cut s [c]).1, d ≠ c) := by
  unfold Lib.cut
  rcases index_piece c s with ⟨h1, h2⟩ | ⟨u, v, h1, h2, h3⟩
  · left
    rw [h1, if_neg (by omega)]
    exact ⟨rfl, rfl, rfl, h2⟩
  · right
    rw [h3, if_pos (by omega)]
    subst h1
    have e : (u ++ c :: v).drop (((u.length : Nat) : Int).toNat + [c].length) = v := by
      rw [Int.toNat_natCast, show u ++ c :: v = (u ++ [c]) ++ v by simp, List.drop_left' (by simp)]
    have e2 : (u ++ c :: v).take ((u.length : Nat) : Int).toNat = u := by rw [Int.toNat_natCast, List.take_left' rfl]
    rw [e, e2]
    exact ⟨rfl, rfl, h2⟩
theorem splitK_words : ∀ (k : Nat) (s : List UInt8), Lib.count s [32] = k → Lib.splitK [32] 0 k s = wordsL s
  | 0, s, h => by
    rcases index_piece 32 s with ⟨h1, h2⟩ | ⟨u, v, h1, h2, h3⟩
    · exact (wordsL_no h2).symm
    · rw [Lib.count_hit (by simp) h3] at h; omega
  | k + 1, s, h => by
    rcases index_piece 32 s with ⟨h1, h2⟩ | ⟨u, v, h1, h2, h3⟩
    · rw [Lib.count_miss h1] at h; omega
    · rw [Lib.count_hit (by simp) h3] at h
      subst h1
      have e : (u ++ 32 :: v).drop (u.length + [(32 : UInt8)].length) = v := by
        rw [show u ++ 32 :: v = (u ++ [32]) ++ v by simp, List.drop_left' (by simp)]
      have e2 : (u ++ 32 :: v).take u.length = u := List.take_left' rfl
      rw [e] at h
      unfold Lib.splitK
      rw [h3, if_neg (by simp), Int.toNat_natCast, Nat.add_zero, e, e2, splitK_words k v (by omega), wordsL_cut h2]
def wCut : Spec [(false, .str), (false, .str)] := ⟨fun x => x.1.length ≤ 1048576, fun x _ => .tup [.str (Lib.cut x.1 x.2.1).1, .str (Lib.cut x.1 x.2.1).2.1, .bool (Lib.cut x.1 x.2.1).2.2], fun _ => []⟩
theorem cut_le (s c : List UInt8) : (Lib.cut s c).1.length ≤ s.length ∧ (Lib.cut s c).2.1.length ≤ s.length := by
  unfold Lib.cut; split
  · exact ⟨by simp; omega, by simp⟩
  · simp
theorem maxLen_cell {w : World} {Φ : Nat → Option Obj} (hf : ∀ b o, Φ b = some o → w.heap[b]? = some o) (hg : GlOk Φ) : ∃ m, w.cell? ⟨2, 0, none⟩ = some (.int .i64 m) := by
  obtain ⟨m, t, fz, h⟩ := hg.2
  refine ⟨m, ?_⟩
  have := hf _ _ h
  simp [World.cell?, this]
theorem f47_ok : FSpecOk Tryd.prog 47 wCut := by
  intro x n hp
  obtain ⟨a, b, u⟩ := x; change List UInt8 at a b
  have hp : a.length ≤ 1048576 := hp
  refine FnOk.of_word fun w Φ vs hf hg hsz hv => ?_
  have hs2 : vs.size = 2 := hsz
  have h0 := hv 0 (.str a) vs[0] rfl (Array.getElem?_eq_getElem (by omega))
  have h1 := hv 1 (.str b) vs[1] rfl (Array.getElem?_eq_getElem (by omega))
  obtain ⟨m, hm⟩ := maxLen_cell hf hg
  rw [two_args hs2]
  generalize vs[0] = v0 at *
  generalize vs[1] = v1 at *
  cases h0; cases h1
  refine (Any.strings_Cut lays145 ⟨a.toArray⟩ ⟨b.toArray⟩ m w (by simp [ByteArray.size]; try omega) hm).mono fun e w' ⟨he, k, hw⟩ => ?_
  subst hw
  refine ⟨_, he, ?_, fun Φ L => ?_⟩
  · exact ⟨rfl, rfl, rfl, Nat.le_refl _, fun _ _ => rfl⟩
  · have hl := cut_le a b
    have hm2 := maxB_eq
    refine .tup _ _ rfl fun i c v hc hv => ?_
    rcases i with _ | _ | _ | i
    · simp at hc hv; subst hc; subst hv; exact .str _ (by omega)
    · simp at hc hv; subst hc; subst hv; exact .str _ (by omega)
    · simp at hc hv; subst hc; subst hv; exact .bool _
    · simp at hc
def wSuf : Spec [(false, .str), (false, .str)] := ⟨fun x => x.1.length ≤ 1048576, fun x _ => .tup [.str (Lib.trimSuffix x.1 x.2.1), .bool (Lib.hasSuffix x.1 x.2.1)], fun _ => []⟩
theorem f62_ok : FSpecOk Tryd.prog 62 wSuf := by
  intro x n hp
  obtain ⟨a, b, u⟩ := x; change List UInt8 at a b
  have hp : a.length ≤ 1048576 := hp
  refine FnOk.of_word fun w Φ vs hf hg hsz hv => ?_
  have hs2 : vs.size = 2 := hsz
  have h0 := hv 0 (.str a) vs[0] rfl (Array.getElem?_eq_getElem (by omega))
  have h1 := hv 1 (.str b) vs[1] rfl (Array.getElem?_eq_getElem (by omega))
  rw [two_args hs2]
  generalize vs[0] = v0 at *
  generalize vs[1] = v1 at *
  cases h0; cases h1
  refine (Any.strings_CutSuffix lays104 ⟨a.toArray⟩ ⟨b.toArray⟩ w (by simp [ByteArray.size]; try omega)).mono fun e w' ⟨he, hw⟩ => ?_
  subst hw
  refine ⟨_, he, Below.refl _ _, fun Φ L => ?_⟩
  have hm2 := maxB_eq
  have hl : (Lib.trimSuffix a b).length ≤ a.length := by
    unfold Lib.trimSuffix; split <;> simp
  refine .tup _ _ rfl fun i c v hc hv => ?_
  rcases i with _ | _ | i
  · simp at hc hv; subst hc; subst hv; exact .str _ (by omega)
  · simp at hc hv; subst hc; subst hv; exact .bool _
  · simp at hc
theorem wordsL_mem : ∀ (s w : List UInt8), w ∈ wordsL s → w.length ≤ s.length
  | [], w, h => by simp [wordsL] at h; simp [h]
  | c :: s, w, h => by
    unfold wordsL at h
    split at h
    · rcases List.mem_cons.1 h with rfl | h
      · simp
      · have := wordsL_mem s w h; simp; omega
    · split at h
      · rcases List.mem_cons.1 h with rfl | h
        · simp
        · simp at h
      · rename_i w1 ws e
        have ih := wordsL_mem s
        rcases List.mem_cons.1 h with rfl | h
        · have := ih w1 (by rw [e]; simp); simp; omega
        · have := ih w (by rw [e]; simp [h]); simp; omega
theorem repL_strs {Φ : Nat → Option Obj} : ∀ (B : List ByteArray), (∀ b ∈ B, b.data.toList.length ≤ maxB) → RepL Φ .str (B.map (·.data.toList)) (B.map Value.string)
  | [], _ => rfl
  | b :: B, h => ⟨[.string b], _, rfl, ⟨by cases b; simp, h b (by simp)⟩, repL_strs B fun c hc => h c (by simp [hc])⟩
def wSplit : HSpec [.val false .str, .val false .str] := ⟨fun x => x.1.length ≤ 1048576 ∧ x.2.1 = [32], fun x => .osl 0 (wordsL x.1).length, fun x => [.arr .str 9 (wordsL x.1)]⟩
theorem f60_ok : HSpecOk Tryd.prog 60 wSplit := by
  intro x hp
  obtain ⟨a, b, u⟩ := x; change List UInt8 at a b
  obtain ⟨hp, hb⟩ := hp
  have hp : a.length ≤ 1048576 := hp
  have hb : b = [32] := hb
  subst hb
  have hp : a.length ≤ 1048576 := hp
  intro w Φ L W vs hI hsz hv
  have hs2 : vs.size = 2 := hsz
  have h0 := hv 0 (.str a) vs[0] rfl (Array.getElem?_eq_getElem (by omega))
  have h1 := hv 1 (.str [32]) vs[1] rfl (Array.getElem?_eq_getElem (by omega))
  obtain ⟨m, hm⟩ := maxLen_cell hI.frz hI.glob
  rw [two_args hs2]
  generalize vs[0] = v0 at *
  generalize vs[1] = v1 at *
  cases h0; cases h1
  refine (Any.strings_Split lays146 (by kernel_rfl) ⟨a.toArray⟩ ⟨[(32 : UInt8)].toArray⟩ m w (by simp [ByteArray.size]; try omega) hm (by decide)).mono fun e w' ⟨he, hw⟩ => ?_
  have hL : L = [] := List.length_eq_zero_iff.1 (by rw [hI.len]; rfl)
  subst hL
  have hdat := Lib.splitB_data ⟨[(32 : UInt8)].toArray⟩ 0 (Lib.countB ⟨a.toArray⟩ ⟨[(32 : UInt8)].toArray⟩) ⟨a.toArray⟩
  have hlen := Lib.splitB_all ⟨[(32 : UInt8)].toArray⟩ (by decide) 0 _ ⟨a.toArray⟩ rfl
  have hk := splitK_words (Lib.count a [32]) a rfl
  have hc : Lib.countB ⟨a.toArray⟩ ⟨[(32 : UInt8)].toArray⟩ = Lib.count a [32] := rfl
  rw [hc] at he hw hdat hlen
  have hdat : (Lib.splitB ⟨[(32 : UInt8)].toArray⟩ 0 (Lib.count a [32]) ⟨a.toArray⟩).map (·.data.toList) = wordsL a := hdat.trans hk
  have hwl : (wordsL a).length = Lib.count a [32] + 1 := by rw [← hdat, List.length_map, hlen]
  have hle := wordsL_len a
  generalize Lib.splitB ⟨[(32 : UInt8)].toArray⟩ 0 (Lib.count a [32]) ⟨a.toArray⟩ = B at *
  have hb : Below w.heap.size w w' := by rw [hw]; exact (Below.refl _ _).alloc (Nat.le_refl _) _
  refine ⟨_, Φ, [some (w.heap.size, Lib.count a [32] + 1)], he, hI.alloc_new hb (Lib.count a [32] + 1) rfl fun L' hL' => ⟨B.map Value.string, ?_, ?_⟩, ?_⟩
  · rw [hwl]
    refine ⟨by simp [hlen], .inr ⟨w.heap.size, Lib.count a [32] + 1, (B.map Value.string).toArray, rfl, Nat.zero_le _, by rw [hw]; exact heap_alloc_new w _, Nat.le_refl _, ?_, by simp [hlen], ?_⟩⟩
    · rw [maxLen_eq]; omega
    · rw [List.take_of_length_le (by simp [hlen])]
  · rw [← hdat]
    refine repL_strs B fun b hb' => ?_
    have := wordsL_mem a b.data.toList (by rw [← hdat]; exact List.mem_map_of_mem hb')
    rw [maxB_eq]; omega
  · show CVal Φ _ (.osl 0 (wordsL a).length) _
    rw [hwl]
    exact .osl _ _ w.heap.size _ (by simp) (Nat.le_refl _) (by rw [maxB_eq]; omega)
end Go.Proofs.YtmbnmbgihcmapaaDoor
