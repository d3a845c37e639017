/- The types and callees of this seat as facts: written by gen.py. -/
import Derived.Test.YtjokmclchdcjkaaSy20
import Derived.Test.YtjokmclchdcjkaaProg
namespace Go.Proofs.Ytjokmclchdcjkaa
open Go Go.RowKit
set_option linter.all false
set_option maxRecDepth 100000

abbrev T23 : Ty := (Ty.pair (Ty.int .i64) (Ty.pair (Ty.int .i64) (Ty.pair (Ty.int .i64) (Ty.int .i64))))   -- g00035/laws.Bucket
abbrev T24 : Ty := (Ty.pair (Ty.int .i64) (Ty.pair (Ty.int .i64) (Ty.pair (Ty.int .i64) (Ty.int .i64))))   -- g00035/impl.Bucket
abbrev T42 : Ty := (Ty.pair (Ty.int .i64) (Ty.pair (Ty.int .i64) (Ty.int .i64)))   -- g00035/impl.Api
abbrev T71 : Ty := (Ty.pair (Ty.int .i64) (Ty.pair (Ty.int .i64) (Ty.int .i64)))   -- g00035/laws.Api
abbrev T75 : Ty := (Ty.pair (Ty.int .i64) (Ty.pair (Ty.sl (Ty.int .i64)) Ty.bool))   -- g00035/laws.Arrival
abbrev T76 : Ty := (Ty.pair (Ty.int .i64) (Ty.pair (Ty.sl (Ty.int .i64)) Ty.bool))   -- g00035/impl.Arrival
abbrev T81 : Ty := (Ty.pair (Ty.sl Ty.byte) (Ty.pair (Ty.int .i64) (Ty.int .i64)))   -- g00035/spec.l1Cur
abbrev D75 : DT := (DT.pair (DT.leaf (Ty.int .i64)) (DT.pair (DT.sl 3 (DT.leaf (Ty.int .i64))) (DT.leaf Ty.bool)))   -- g00035/laws.Arrival
abbrev D76 : DT := (DT.pair (DT.leaf (Ty.int .i64)) (DT.pair (DT.sl 3 (DT.leaf (Ty.int .i64))) (DT.leaf Ty.bool)))   -- g00035/impl.Arrival
abbrev D81 : DT := (DT.pair (DT.sl 5 (DT.leaf Ty.byte)) (DT.pair (DT.leaf (Ty.int .i64)) (DT.leaf (Ty.int .i64))))   -- g00035/spec.l1Cur

theorem ti2 : tinfo Try.prog 2 = some ⟨false, 1, 8, some [.int .i64 0], .int .i64, true⟩ := by kernel_rfl
theorem ti3 : tinfo Try.prog 3 = some ⟨false, 1, 8, some [.int .i64 0], .int .i64, true⟩ := by kernel_rfl
theorem ti4 : tinfo Try.prog 4 = some ⟨false, 1, 1, some [.bool false], .bool, true⟩ := by kernel_rfl
theorem ti5 : tinfo Try.prog 5 = some ⟨false, 1, 1, some [.int .u8 0], .int .u8, true⟩ := by kernel_rfl
theorem ti9 : tinfo Try.prog 9 = some ⟨false, 1, 16, some [.str []], .str, true⟩ := by kernel_rfl
theorem ti12 : tinfo Try.prog 12 = some ⟨false, 1, 8, some [.int .u64 0], .int .u64, true⟩ := by kernel_rfl
theorem ti13 : tinfo Try.prog 13 = some ⟨true, 2, 24, some [.str [], .int .u64 0], .st [(0, 1, 9), (1, 1, 12)], true⟩ := by kernel_rfl
theorem ti21 : tinfo Try.prog 21 = some ⟨false, 1, 4, some [.int .i32 0], .int .i32, true⟩ := by kernel_rfl
theorem ti22 : tinfo Try.prog 22 = some ⟨true, 4, 32, some [.int .i64 0, .int .i64 0, .int .i64 0, .int .i64 0], .st [(0, 1, 3), (1, 1, 3), (2, 1, 3), (3, 1, 3)], true⟩ := by kernel_rfl
theorem ti23 : tinfo Try.prog 23 = some ⟨true, 4, 32, some [.int .i64 0, .int .i64 0, .int .i64 0, .int .i64 0], .st [(0, 1, 3), (1, 1, 3), (2, 1, 3), (3, 1, 3)], true⟩ := by kernel_rfl
theorem ti24 : tinfo Try.prog 24 = some ⟨true, 4, 32, some [.int .i64 0, .int .i64 0, .int .i64 0, .int .i64 0], .st [(0, 1, 3), (1, 1, 3), (2, 1, 3), (3, 1, 3)], true⟩ := by kernel_rfl
theorem ti30 : tinfo Try.prog 30 = some ⟨false, 1, 24, some [.nilsl], .sl 5, true⟩ := by kernel_rfl
theorem ti42 : tinfo Try.prog 42 = some ⟨true, 3, 24, some [.int .i64 0, .int .i64 0, .int .i64 0], .st [(0, 1, 3), (1, 1, 3), (2, 1, 3)], true⟩ := by kernel_rfl
theorem ti36 : tinfo Try.prog 36 = some ⟨false, 1, 24, some [.nilsl], .sl 42, true⟩ := by kernel_rfl
theorem ti41 : tinfo Try.prog 41 = some ⟨true, 3, 24, some [.int .i64 0, .int .i64 0, .int .i64 0], .st [(0, 1, 3), (1, 1, 3), (2, 1, 3)], true⟩ := by kernel_rfl
theorem ti71 : tinfo Try.prog 71 = some ⟨true, 3, 24, some [.int .i64 0, .int .i64 0, .int .i64 0], .st [(0, 1, 3), (1, 1, 3), (2, 1, 3)], true⟩ := by kernel_rfl
theorem ti43 : tinfo Try.prog 43 = some ⟨false, 1, 24, some [.nilsl], .sl 71, true⟩ := by kernel_rfl
theorem ti51 : tinfo Try.prog 51 = some ⟨false, 1, 24, some [.nilsl], .sl 3, true⟩ := by kernel_rfl
theorem ti75 : tinfo Try.prog 75 = some ⟨true, 3, 40, some [.int .i64 0, .nilsl, .bool false], .st [(0, 1, 3), (1, 1, 51), (2, 1, 4)], true⟩ := by kernel_rfl
theorem ti49 : tinfo Try.prog 49 = some ⟨false, 1, 24, some [.nilsl], .sl 75, true⟩ := by kernel_rfl
theorem ti76 : tinfo Try.prog 76 = some ⟨true, 3, 40, some [.int .i64 0, .nilsl, .bool false], .st [(0, 1, 3), (1, 1, 51), (2, 1, 4)], true⟩ := by kernel_rfl
theorem ti54 : tinfo Try.prog 54 = some ⟨false, 1, 24, some [.nilsl], .sl 76, true⟩ := by kernel_rfl
theorem ti81 : tinfo Try.prog 81 = some ⟨true, 3, 40, some [.nilsl, .int .i64 0, .int .i64 0], .st [(0, 1, 30), (1, 1, 3), (2, 1, 3)], true⟩ := by kernel_rfl
theorem ti64 : tinfo Try.prog 64 = some ⟨false, 1, 8, some [.nilp], .ptr 81, true⟩ := by kernel_rfl
theorem ti74 : tinfo Try.prog 74 = some ⟨true, 3, 40, some [.int .i64 0, .nilsl, .bool false], .st [(0, 1, 3), (1, 1, 51), (2, 1, 4)], true⟩ := by kernel_rfl
theorem ti80 : tinfo Try.prog 80 = some ⟨true, 3, 40, some [.nilsl, .int .i64 0, .int .i64 0], .st [(0, 1, 30), (1, 1, 3), (2, 1, 3)], true⟩ := by kernel_rfl
theorem ti84 : tinfo Try.prog 84 = some ⟨false, 1, 8, some [.int .u64 0], .int .u64, true⟩ := by kernel_rfl
theorem ti92 : tinfo Try.prog 92 = some ⟨false, 1, 4, some [.int .u32 0], .int .u32, true⟩ := by kernel_rfl
theorem ti96 : tinfo Try.prog 96 = some ⟨false, 1, 8, some [.nilp], .ptr 5, true⟩ := by kernel_rfl
theorem eqi23 : eqInfo Try.prog 23 = some [.int .i64, .int .i64, .int .i64, .int .i64] := by kernel_rfl
theorem eqi24 : eqInfo Try.prog 24 = some [.int .i64, .int .i64, .int .i64, .int .i64] := by kernel_rfl
theorem eqi42 : eqInfo Try.prog 42 = some [.int .i64, .int .i64, .int .i64] := by kernel_rfl
theorem eqi71 : eqInfo Try.prog 71 = some [.int .i64, .int .i64, .int .i64] := by kernel_rfl
theorem ca3 : callable Try.prog 3 = true := by kernel_rfl   -- laws.FnExactCharge
theorem ca4 : callable Try.prog 4 = true := by kernel_rfl   -- laws.FnCharged
theorem ca5 : callable Try.prog 5 = true := by kernel_rfl   -- laws.FnAgreed
theorem ca6 : callable Try.prog 6 = true := by kernel_rfl   -- laws.FnExactAgree
theorem ca7 : callable Try.prog 7 = true := by kernel_rfl   -- laws.FnExactLatestAt
theorem ca8 : callable Try.prog 8 = true := by kernel_rfl   -- spec.Charge
theorem ca9 : callable Try.prog 9 = true := by kernel_rfl   -- laws.toBucket
theorem ca10 : callable Try.prog 10 = true := by kernel_rfl   -- impl.Charge
theorem ca11 : callable Try.prog 11 = true := by kernel_rfl   -- laws.eqBucket
theorem ca12 : callable Try.prog 12 = true := by kernel_rfl   -- laws.big
theorem ca13 : callable Try.prog 13 = true := by kernel_rfl   -- spec.DrawCharge
theorem ca14 : callable Try.prog 14 = true := by kernel_rfl   -- laws.at
theorem ca15 : callable Try.prog 15 = true := by kernel_rfl   -- spec.DrawAgree
theorem ca16 : callable Try.prog 16 = true := by kernel_rfl   -- impl.Agree
theorem ca17 : callable Try.prog 17 = true := by kernel_rfl   -- spec.Agree
theorem ca18 : callable Try.prog 18 = true := by kernel_rfl   -- laws.szApiS
theorem ca19 : callable Try.prog 19 = true := by kernel_rfl   -- laws.toApiS
theorem ca20 : callable Try.prog 20 = true := by kernel_rfl   -- laws.eqApiS
theorem ca21 : callable Try.prog 21 = true := by kernel_rfl   -- laws.markApiS
theorem ca22 : callable Try.prog 22 = true := by kernel_rfl   -- laws.heldApiS
theorem ca23 : callable Try.prog 23 = true := by kernel_rfl   -- laws.szArrivalS
theorem ca24 : callable Try.prog 24 = true := by kernel_rfl   -- spec.LatestAt
theorem ca25 : callable Try.prog 25 = true := by kernel_rfl   -- laws.toArrivalS
theorem ca26 : callable Try.prog 26 = true := by kernel_rfl   -- impl.LatestAt
theorem ca27 : callable Try.prog 27 = true := by kernel_rfl   -- laws.eqIntS
theorem ca28 : callable Try.prog 28 = true := by kernel_rfl   -- laws.eqArrivalS
theorem ca29 : callable Try.prog 29 = true := by kernel_rfl   -- laws.markArrivalS
theorem ca30 : callable Try.prog 30 = true := by kernel_rfl   -- laws.markIntS
theorem ca31 : callable Try.prog 31 = true := by kernel_rfl   -- laws.heldIntS
theorem ca32 : callable Try.prog 32 = true := by kernel_rfl   -- spec.l1In
theorem ca33 : callable Try.prog 33 = true := by kernel_rfl   -- spec.l5Least
theorem ca34 : callable Try.prog 34 = true := by kernel_rfl   -- impl.within
theorem ca35 : callable Try.prog 35 = true := by kernel_rfl   -- impl.timeOk
theorem ca36 : callable Try.prog 36 = true := by kernel_rfl   -- spec.l1New
theorem ca37 : callable Try.prog 37 = true := by kernel_rfl   -- spec.l1PickInt
theorem ca38 : callable Try.prog 38 = true := by kernel_rfl   -- spec.l1Below
theorem ca39 : callable Try.prog 39 = true := by kernel_rfl   -- spec.l11DrawApis
theorem ca40 : callable Try.prog 40 = true := by kernel_rfl   -- impl.apisOk
theorem ca41 : callable Try.prog 41 = true := by kernel_rfl   -- spec.l11Apis
theorem ca42 : callable Try.prog 42 = true := by kernel_rfl   -- laws.toApi
theorem ca43 : callable Try.prog 43 = true := by kernel_rfl   -- laws.eqApi
theorem ca44 : callable Try.prog 44 = true := by kernel_rfl   -- laws.szArrival
theorem ca45 : callable Try.prog 45 = true := by kernel_rfl   -- laws.toArrival
theorem ca46 : callable Try.prog 46 = true := by kernel_rfl   -- slices.Clone[[]int,int]
theorem ca47 : callable Try.prog 47 = true := by kernel_rfl   -- laws.eqArrival
theorem ca48 : callable Try.prog 48 = true := by kernel_rfl   -- spec.l1Byte
theorem ca49 : callable Try.prog 49 = true := by kernel_rfl   -- spec.l1Once
theorem ca50 : callable Try.prog 50 = true := by kernel_rfl   -- laws.szIntS
theorem ca51 : callable Try.prog 51 = true := by kernel_rfl   -- laws.toIntS
attribute [simp] ti2 ti3 ti4 ti5 ti9 ti12 ti13 ti21 ti22 ti23 ti24 ti30 ti42 ti36 ti41 ti71 ti43 ti51 ti75 ti49 ti76 ti54 ti81 ti64 ti74 ti80 ti84 ti92 ti96 eqi23 eqi24 eqi42 eqi71 ca3 ca4 ca5 ca6 ca7 ca8 ca9 ca10 ca11 ca12 ca13 ca14 ca15 ca16 ca17 ca18 ca19 ca20 ca21 ca22 ca23 ca24 ca25 ca26 ca27 ca28 ca29 ca30 ca31 ca32 ca33 ca34 ca35 ca36 ca37 ca38 ca39 ca40 ca41 ca42 ca43 ca44 ca45 ca46 ca47 ca48 ca49 ca50 ca51

def tau : TypeId → Option Ty := fun t => match t with
  | 2 => some (Ty.int .i64)
  | 3 => some (Ty.int .i64)
  | 4 => some Ty.bool
  | 5 => some Ty.byte
  | 9 => some Ty.str
  | 12 => some (Ty.int .u64)
  | 13 => some (Ty.pair Ty.str (Ty.int .u64))
  | 21 => some (Ty.int .i32)
  | 22 => some (Ty.pair (Ty.int .i64) (Ty.pair (Ty.int .i64) (Ty.pair (Ty.int .i64) (Ty.int .i64))))
  | 23 => some T23
  | 24 => some T24
  | 30 => some (Ty.sl Ty.byte)
  | 42 => some T42
  | 36 => some (Ty.sl T42)
  | 41 => some (Ty.pair (Ty.int .i64) (Ty.pair (Ty.int .i64) (Ty.int .i64)))
  | 71 => some T71
  | 43 => some (Ty.sl T71)
  | 51 => some (Ty.sl (Ty.int .i64))
  | 75 => some T75
  | 49 => some (Ty.sl T75)
  | 76 => some T76
  | 54 => some (Ty.sl T76)
  | 81 => some T81
  | 74 => some (Ty.pair (Ty.int .i64) (Ty.pair (Ty.sl (Ty.int .i64)) Ty.bool))
  | 80 => some (Ty.pair (Ty.sl Ty.byte) (Ty.pair (Ty.int .i64) (Ty.int .i64)))
  | 84 => some (Ty.int .u64)
  | 92 => some (Ty.int .u32)
  | _ => none
theorem tau2 : tau 2 = some (Ty.int .i64) := rfl
theorem tau3 : tau 3 = some (Ty.int .i64) := rfl
theorem tau4 : tau 4 = some Ty.bool := rfl
theorem tau5 : tau 5 = some Ty.byte := rfl
theorem tau9 : tau 9 = some Ty.str := rfl
theorem tau12 : tau 12 = some (Ty.int .u64) := rfl
theorem tau13 : tau 13 = some (Ty.pair Ty.str (Ty.int .u64)) := rfl
theorem tau21 : tau 21 = some (Ty.int .i32) := rfl
theorem tau22 : tau 22 = some (Ty.pair (Ty.int .i64) (Ty.pair (Ty.int .i64) (Ty.pair (Ty.int .i64) (Ty.int .i64)))) := rfl
theorem tau23 : tau 23 = some T23 := rfl
theorem tau24 : tau 24 = some T24 := rfl
theorem tau30 : tau 30 = some (Ty.sl Ty.byte) := rfl
theorem tau42 : tau 42 = some T42 := rfl
theorem tau36 : tau 36 = some (Ty.sl T42) := rfl
theorem tau41 : tau 41 = some (Ty.pair (Ty.int .i64) (Ty.pair (Ty.int .i64) (Ty.int .i64))) := rfl
theorem tau71 : tau 71 = some T71 := rfl
theorem tau43 : tau 43 = some (Ty.sl T71) := rfl
theorem tau51 : tau 51 = some (Ty.sl (Ty.int .i64)) := rfl
theorem tau75 : tau 75 = some T75 := rfl
theorem tau49 : tau 49 = some (Ty.sl T75) := rfl
theorem tau76 : tau 76 = some T76 := rfl
theorem tau54 : tau 54 = some (Ty.sl T76) := rfl
theorem tau81 : tau 81 = some T81 := rfl
theorem tau74 : tau 74 = some (Ty.pair (Ty.int .i64) (Ty.pair (Ty.sl (Ty.int .i64)) Ty.bool)) := rfl
theorem tau80 : tau 80 = some (Ty.pair (Ty.sl Ty.byte) (Ty.pair (Ty.int .i64) (Ty.int .i64))) := rfl
theorem tau84 : tau 84 = some (Ty.int .u64) := rfl
theorem tau92 : tau 92 = some (Ty.int .u32) := rfl
attribute [simp] tau2 tau3 tau4 tau5 tau9 tau12 tau13 tau21 tau22 tau23 tau24 tau30 tau42 tau36 tau41 tau71 tau43 tau51 tau75 tau49 tau76 tau54 tau81 tau74 tau80 tau84 tau92
theorem mixed : Try.prog.follows .mixedOrders = true := by kernel_rfl
end Go.Proofs.Ytjokmclchdcjkaa
