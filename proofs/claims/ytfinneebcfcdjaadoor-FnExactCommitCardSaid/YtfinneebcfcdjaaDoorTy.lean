/- The types and callees of this seat as facts: written by gen.py. -/
import Derived.Test.YtfinneebcfcdjaaDoorSy20
import Derived.Test.YtfinneebcfcdjaaDoorProg
namespace Go.Proofs.YtfinneebcfcdjaaDoor
open Go Go.RowKit
set_option linter.all false
set_option maxRecDepth 100000

abbrev T23 : Ty := (Ty.pair Ty.str (Ty.int .i64))   -- g00035/laws.Slot
abbrev T47 : Ty := (Ty.pair Ty.str Ty.str)   -- g00035/impl.Head
abbrev T27 : Ty := (Ty.pair (Ty.int .i64) (Ty.pair Ty.bool (Ty.pair Ty.str (Ty.pair Ty.bool (Ty.pair Ty.str (Ty.sl T47))))))   -- g00035/impl.Record
abbrev T30 : Ty := (Ty.pair Ty.str (Ty.int .i64))   -- g00035/impl.Slot
abbrev D27 : DT := (DT.pair (DT.leaf (Ty.int .i64)) (DT.pair (DT.leaf Ty.bool) (DT.pair (DT.leaf Ty.str) (DT.pair (DT.leaf Ty.bool) (DT.pair (DT.leaf Ty.str) (DT.sl 47 (DT.leaf T47)))))))   -- g00035/impl.Record

theorem ti2 : tinfo Tryd.prog 2 = some ⟨false, 1, 8, some [.int .i64 0], .int .i64, true⟩ := by kernel_rfl
theorem ti3 : tinfo Tryd.prog 3 = some ⟨false, 1, 8, some [.int .i64 0], .int .i64, true⟩ := by kernel_rfl
theorem ti4 : tinfo Tryd.prog 4 = some ⟨false, 1, 1, some [.bool false], .bool, true⟩ := by kernel_rfl
theorem ti5 : tinfo Tryd.prog 5 = some ⟨false, 1, 1, some [.int .u8 0], .int .u8, true⟩ := by kernel_rfl
theorem ti9 : tinfo Tryd.prog 9 = some ⟨false, 1, 16, some [.str []], .str, true⟩ := by kernel_rfl
theorem ti12 : tinfo Tryd.prog 12 = some ⟨false, 1, 8, some [.int .u64 0], .int .u64, true⟩ := by kernel_rfl
theorem ti13 : tinfo Tryd.prog 13 = some ⟨true, 2, 24, some [.str [], .int .u64 0], .st [(0, 1, 9), (1, 1, 12)], true⟩ := by kernel_rfl
theorem ti21 : tinfo Tryd.prog 21 = some ⟨false, 1, 4, some [.int .i32 0], .int .i32, true⟩ := by kernel_rfl
theorem ti22 : tinfo Tryd.prog 22 = some ⟨true, 2, 24, some [.str [], .int .i64 0], .st [(0, 1, 9), (1, 1, 3)], true⟩ := by kernel_rfl
theorem ti23 : tinfo Tryd.prog 23 = some ⟨true, 2, 24, some [.str [], .int .i64 0], .st [(0, 1, 9), (1, 1, 3)], true⟩ := by kernel_rfl
theorem ti47 : tinfo Tryd.prog 47 = some ⟨true, 2, 32, some [.str [], .str []], .st [(0, 1, 9), (1, 1, 9)], true⟩ := by kernel_rfl
theorem ti25 : tinfo Tryd.prog 25 = some ⟨false, 1, 24, some [.nilsl], .sl 47, true⟩ := by kernel_rfl
theorem ti26 : tinfo Tryd.prog 26 = some ⟨true, 6, 80, some [.int .i64 0, .bool false, .str [], .bool false, .str [], .nilsl], .st [(0, 1, 3), (1, 1, 4), (2, 1, 9), (3, 1, 4), (4, 1, 9), (5, 1, 25)], true⟩ := by kernel_rfl
theorem ti27 : tinfo Tryd.prog 27 = some ⟨true, 6, 80, some [.int .i64 0, .bool false, .str [], .bool false, .str [], .nilsl], .st [(0, 1, 3), (1, 1, 4), (2, 1, 9), (3, 1, 4), (4, 1, 9), (5, 1, 25)], true⟩ := by kernel_rfl
theorem ti30 : tinfo Tryd.prog 30 = some ⟨true, 2, 24, some [.str [], .int .i64 0], .st [(0, 1, 9), (1, 1, 3)], true⟩ := by kernel_rfl
theorem ti42 : tinfo Tryd.prog 42 = some ⟨false, 1, 8, some [.int .u64 0], .int .u64, true⟩ := by kernel_rfl
theorem ti43 : tinfo Tryd.prog 43 = some ⟨false, 1, 24, some [.nilsl], .sl 5, true⟩ := by kernel_rfl
theorem ti46 : tinfo Tryd.prog 46 = some ⟨true, 2, 32, some [.str [], .str []], .st [(0, 1, 9), (1, 1, 9)], true⟩ := by kernel_rfl
theorem ti57 : tinfo Tryd.prog 57 = some ⟨false, 1, 4, some [.int .u32 0], .int .u32, true⟩ := by kernel_rfl
theorem ti59 : tinfo Tryd.prog 59 = some ⟨false, 1, 8, some [.int .u64 0], .int .u64, true⟩ := by kernel_rfl
theorem ti74 : tinfo Tryd.prog 74 = some ⟨false, 1, 8, some [.nilp], .ptr 5, true⟩ := by kernel_rfl
theorem bi5 : byteI Tryd.prog 5 = true := by kernel_rfl
theorem st9 : strT Tryd.prog 9 = true := by kernel_rfl
theorem eqi23 : eqInfo Tryd.prog 23 = some [.str, .int .i64] := by kernel_rfl
theorem eqi47 : eqInfo Tryd.prog 47 = some [.str, .str] := by kernel_rfl
theorem eqi30 : eqInfo Tryd.prog 30 = some [.str, .int .i64] := by kernel_rfl
theorem ca3 : callable Tryd.prog 3 = true := by kernel_rfl   -- laws.FnExactCommit
theorem ca4 : callable Tryd.prog 4 = true := by kernel_rfl   -- laws.szSlot
theorem ca5 : callable Tryd.prog 5 = true := by kernel_rfl   -- spec.Commit
theorem ca6 : callable Tryd.prog 6 = true := by kernel_rfl   -- laws.toSlot
theorem ca7 : callable Tryd.prog 7 = true := by kernel_rfl   -- impl.Commit
theorem ca8 : callable Tryd.prog 8 = true := by kernel_rfl   -- laws.eqRecord
theorem ca9 : callable Tryd.prog 9 = true := by kernel_rfl   -- laws.markRecord
theorem ca10 : callable Tryd.prog 10 = true := by kernel_rfl   -- laws.heldRecord
theorem ca11 : callable Tryd.prog 11 = true := by kernel_rfl   -- spec.NameOk
theorem ca12 : callable Tryd.prog 12 = true := by kernel_rfl   -- spec.l10Slot
theorem ca13 : callable Tryd.prog 13 = true := by kernel_rfl   -- spec.l1In
theorem ca14 : callable Tryd.prog 14 = true := by kernel_rfl   -- spec.l1Itoa
theorem ca15 : callable Tryd.prog 15 = true := by kernel_rfl   -- impl.NameOk
theorem ca16 : callable Tryd.prog 16 = true := by kernel_rfl   -- impl.slotOk
theorem ca17 : callable Tryd.prog 17 = true := by kernel_rfl   -- impl.offsetOk
theorem ca18 : callable Tryd.prog 18 = true := by kernel_rfl   -- impl.timeOk
theorem ca19 : callable Tryd.prog 19 = true := by kernel_rfl   -- strconv.Itoa
theorem ca20 : callable Tryd.prog 20 = true := by kernel_rfl   -- laws.eqHeadS
theorem ca21 : callable Tryd.prog 21 = true := by kernel_rfl   -- laws.markHeadS
theorem ca22 : callable Tryd.prog 22 = true := by kernel_rfl   -- laws.heldHeadS
theorem ca23 : callable Tryd.prog 23 = true := by kernel_rfl   -- impl.letter
theorem ca24 : callable Tryd.prog 24 = true := by kernel_rfl   -- impl.digit
theorem ca25 : callable Tryd.prog 25 = true := by kernel_rfl   -- impl.within
theorem ca27 : callable Tryd.prog 27 = true := by kernel_rfl   -- laws.eqHead
theorem ca28 : callable Tryd.prog 28 = true := by kernel_rfl   -- laws.markText
theorem ca35 : callable Tryd.prog 35 = true := by kernel_rfl   -- math/bits.Len64
theorem ca38 : callable Tryd.prog 38 = true := by kernel_rfl   -- math/bits.TrailingZeros
theorem ca39 : callable Tryd.prog 39 = true := by kernel_rfl   -- math/bits.TrailingZeros32
theorem ca40 : callable Tryd.prog 40 = true := by kernel_rfl   -- math/bits.TrailingZeros64
attribute [simp] ti2 ti3 ti4 ti5 ti9 ti12 ti13 ti21 ti22 ti23 ti47 ti25 ti26 ti27 ti30 ti42 ti43 ti46 ti57 ti59 ti74 bi5 st9 eqi23 eqi47 eqi30 ca3 ca4 ca5 ca6 ca7 ca8 ca9 ca10 ca11 ca12 ca13 ca14 ca15 ca16 ca17 ca18 ca19 ca20 ca21 ca22 ca23 ca24 ca25 ca27 ca28 ca35 ca38 ca39 ca40

def tau : TypeId → Option Ty := fun t => match t with
  | 2 => some (Ty.int .i64)
  | 3 => some (Ty.int .i64)
  | 4 => some Ty.bool
  | 5 => some Ty.byte
  | 9 => some Ty.str
  | 12 => some (Ty.int .u64)
  | 13 => some (Ty.pair Ty.str (Ty.int .u64))
  | 21 => some (Ty.int .i32)
  | 22 => some (Ty.pair Ty.str (Ty.int .i64))
  | 23 => some T23
  | 47 => some T47
  | 25 => some (Ty.sl T47)
  | 26 => some (Ty.pair (Ty.int .i64) (Ty.pair Ty.bool (Ty.pair Ty.str (Ty.pair Ty.bool (Ty.pair Ty.str (Ty.sl T47))))))
  | 27 => some T27
  | 30 => some T30
  | 42 => some (Ty.int .u64)
  | 43 => some (Ty.sl Ty.byte)
  | 46 => some (Ty.pair Ty.str Ty.str)
  | 57 => some (Ty.int .u32)
  | 59 => some (Ty.int .u64)
  | _ => none
theorem tau2 : tau 2 = some (Ty.int .i64) := rfl
theorem tau3 : tau 3 = some (Ty.int .i64) := rfl
theorem tau4 : tau 4 = some Ty.bool := rfl
theorem tau5 : tau 5 = some Ty.byte := rfl
theorem tau9 : tau 9 = some Ty.str := rfl
theorem tau12 : tau 12 = some (Ty.int .u64) := rfl
theorem tau13 : tau 13 = some (Ty.pair Ty.str (Ty.int .u64)) := rfl
theorem tau21 : tau 21 = some (Ty.int .i32) := rfl
theorem tau22 : tau 22 = some (Ty.pair Ty.str (Ty.int .i64)) := rfl
theorem tau23 : tau 23 = some T23 := rfl
theorem tau47 : tau 47 = some T47 := rfl
theorem tau25 : tau 25 = some (Ty.sl T47) := rfl
theorem tau26 : tau 26 = some (Ty.pair (Ty.int .i64) (Ty.pair Ty.bool (Ty.pair Ty.str (Ty.pair Ty.bool (Ty.pair Ty.str (Ty.sl T47)))))) := rfl
theorem tau27 : tau 27 = some T27 := rfl
theorem tau30 : tau 30 = some T30 := rfl
theorem tau42 : tau 42 = some (Ty.int .u64) := rfl
theorem tau43 : tau 43 = some (Ty.sl Ty.byte) := rfl
theorem tau46 : tau 46 = some (Ty.pair Ty.str Ty.str) := rfl
theorem tau57 : tau 57 = some (Ty.int .u32) := rfl
theorem tau59 : tau 59 = some (Ty.int .u64) := rfl
attribute [simp] tau2 tau3 tau4 tau5 tau9 tau12 tau13 tau21 tau22 tau23 tau47 tau25 tau26 tau27 tau30 tau42 tau43 tau46 tau57 tau59
theorem mixed : Tryd.prog.follows .mixedOrders = true := by kernel_rfl
end Go.Proofs.YtfinneebcfcdjaaDoor
