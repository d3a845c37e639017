/- The types and callees of this seat as facts: written by gen.py. -/
import Derived.Test.YtfinneebcfcdjaaSy20
import Derived.Test.YtfinneebcfcdjaaProg
namespace Go.Proofs.Ytfinneebcfcdjaa
open Go Go.RowKit
set_option linter.all false
set_option maxRecDepth 100000

abbrev T32 : Ty := (Ty.pair (Ty.int .i64) (Ty.pair (Ty.int .i64) Ty.str))   -- g00035/impl.Step
abbrev T50 : Ty := (Ty.pair Ty.str (Ty.int .i64))   -- g00035/impl.Topic
abbrev T48 : Ty := (Ty.pair Ty.str (Ty.int .i64))   -- g00035/impl.Slot
abbrev T46 : Ty := (Ty.pair Ty.str (Ty.pair (Ty.sl Ty.str) (Ty.sl T48)))   -- g00035/impl.Want
abbrev T157 : Ty := (Ty.pair Ty.str (Ty.int .i64))   -- g00035/laws.Topic
abbrev T206 : Ty := (Ty.pair Ty.str (Ty.int .i64))   -- g00035/laws.Slot
abbrev T182 : Ty := (Ty.pair Ty.str (Ty.pair Ty.str (Ty.pair (Ty.sl Ty.str) (Ty.pair (Ty.int .i64) (Ty.pair (Ty.int .i64) (Ty.pair (Ty.sl T206) (Ty.sl T206)))))))   -- g00035/laws.Member
abbrev T55 : Ty := (Ty.pair (Ty.int .i64) (Ty.pair (Ty.int .i64) (Ty.pair (Ty.int .i64) (Ty.pair (Ty.int .i64) (Ty.pair (Ty.sl T157) (Ty.sl T182))))))   -- g00035/laws.Group
abbrev T126 : Ty := (Ty.pair Ty.str (Ty.pair Ty.str (Ty.pair (Ty.sl Ty.str) (Ty.pair (Ty.int .i64) (Ty.pair (Ty.int .i64) (Ty.pair (Ty.sl T48) (Ty.sl T48)))))))   -- g00035/impl.Member
abbrev T60 : Ty := (Ty.pair (Ty.int .i64) (Ty.pair (Ty.int .i64) (Ty.pair (Ty.int .i64) (Ty.pair (Ty.int .i64) (Ty.pair (Ty.sl T50) (Ty.sl T126))))))   -- g00035/impl.Group
abbrev T188 : Ty := (Ty.pair (Ty.int .i64) (Ty.pair (Ty.int .i64) Ty.str))   -- g00035/laws.Step
abbrev T191 : Ty := (Ty.pair (Ty.int .i64) (Ty.pair (Ty.sl T188) Ty.str))   -- g00035/laws.Get
abbrev T67 : Ty := (Ty.pair Ty.str (Ty.pair Ty.str (Ty.pair (Ty.int .i64) (Ty.pair Ty.str (Ty.pair Ty.str (Ty.pair (Ty.sl T188) (Ty.pair (Ty.sl Ty.str) (Ty.pair (Ty.int .i64) (Ty.pair (Ty.int .i64) (Ty.pair (Ty.int .i64) (Ty.sl T191)))))))))))   -- g00035/laws.Query
abbrev T138 : Ty := (Ty.pair Ty.str (Ty.pair Ty.bool (Ty.sl Ty.str)))   -- g00035/laws.Source
abbrev T144 : Ty := (Ty.pair (Ty.int .i64) (Ty.pair (Ty.sl T32) Ty.str))   -- g00035/impl.Get
abbrev T74 : Ty := (Ty.pair Ty.str (Ty.pair Ty.str (Ty.pair (Ty.int .i64) (Ty.pair Ty.str (Ty.pair Ty.str (Ty.pair (Ty.sl T32) (Ty.pair (Ty.sl Ty.str) (Ty.pair (Ty.int .i64) (Ty.pair (Ty.int .i64) (Ty.pair (Ty.int .i64) (Ty.sl T144)))))))))))   -- g00035/impl.Query
abbrev T142 : Ty := (Ty.pair Ty.str (Ty.pair Ty.bool (Ty.sl Ty.str)))   -- g00035/impl.Source
abbrev T161 : Ty := (Ty.pair Ty.str (Ty.pair (Ty.sl Ty.str) (Ty.sl T206)))   -- g00035/laws.Want
abbrev T169 : Ty := (Ty.pair (Ty.sl Ty.byte) (Ty.pair (Ty.int .i64) (Ty.int .i64)))   -- g00035/spec.l1Cur
abbrev D46 : DT := (DT.pair (DT.leaf Ty.str) (DT.pair (DT.sl 9 (DT.leaf Ty.str)) (DT.sl 48 (DT.leaf T48))))   -- g00035/impl.Want
abbrev D182 : DT := (DT.pair (DT.leaf Ty.str) (DT.pair (DT.leaf Ty.str) (DT.pair (DT.sl 9 (DT.leaf Ty.str)) (DT.pair (DT.leaf (Ty.int .i64)) (DT.pair (DT.leaf (Ty.int .i64)) (DT.pair (DT.sl 206 (DT.leaf T206)) (DT.sl 206 (DT.leaf T206))))))))   -- g00035/laws.Member
abbrev D55 : DT := (DT.pair (DT.leaf (Ty.int .i64)) (DT.pair (DT.leaf (Ty.int .i64)) (DT.pair (DT.leaf (Ty.int .i64)) (DT.pair (DT.leaf (Ty.int .i64)) (DT.pair (DT.sl 157 (DT.leaf T157)) (DT.sl 182 D182))))))   -- g00035/laws.Group
abbrev D126 : DT := (DT.pair (DT.leaf Ty.str) (DT.pair (DT.leaf Ty.str) (DT.pair (DT.sl 9 (DT.leaf Ty.str)) (DT.pair (DT.leaf (Ty.int .i64)) (DT.pair (DT.leaf (Ty.int .i64)) (DT.pair (DT.sl 48 (DT.leaf T48)) (DT.sl 48 (DT.leaf T48))))))))   -- g00035/impl.Member
abbrev D60 : DT := (DT.pair (DT.leaf (Ty.int .i64)) (DT.pair (DT.leaf (Ty.int .i64)) (DT.pair (DT.leaf (Ty.int .i64)) (DT.pair (DT.leaf (Ty.int .i64)) (DT.pair (DT.sl 50 (DT.leaf T50)) (DT.sl 126 D126))))))   -- g00035/impl.Group
abbrev D191 : DT := (DT.pair (DT.leaf (Ty.int .i64)) (DT.pair (DT.sl 188 (DT.leaf T188)) (DT.leaf Ty.str)))   -- g00035/laws.Get
abbrev D67 : DT := (DT.pair (DT.leaf Ty.str) (DT.pair (DT.leaf Ty.str) (DT.pair (DT.leaf (Ty.int .i64)) (DT.pair (DT.leaf Ty.str) (DT.pair (DT.leaf Ty.str) (DT.pair (DT.sl 188 (DT.leaf T188)) (DT.pair (DT.sl 9 (DT.leaf Ty.str)) (DT.pair (DT.leaf (Ty.int .i64)) (DT.pair (DT.leaf (Ty.int .i64)) (DT.pair (DT.leaf (Ty.int .i64)) (DT.sl 191 D191)))))))))))   -- g00035/laws.Query
abbrev D138 : DT := (DT.pair (DT.leaf Ty.str) (DT.pair (DT.leaf Ty.bool) (DT.sl 9 (DT.leaf Ty.str))))   -- g00035/laws.Source
abbrev D144 : DT := (DT.pair (DT.leaf (Ty.int .i64)) (DT.pair (DT.sl 32 (DT.leaf T32)) (DT.leaf Ty.str)))   -- g00035/impl.Get
abbrev D74 : DT := (DT.pair (DT.leaf Ty.str) (DT.pair (DT.leaf Ty.str) (DT.pair (DT.leaf (Ty.int .i64)) (DT.pair (DT.leaf Ty.str) (DT.pair (DT.leaf Ty.str) (DT.pair (DT.sl 32 (DT.leaf T32)) (DT.pair (DT.sl 9 (DT.leaf Ty.str)) (DT.pair (DT.leaf (Ty.int .i64)) (DT.pair (DT.leaf (Ty.int .i64)) (DT.pair (DT.leaf (Ty.int .i64)) (DT.sl 144 D144)))))))))))   -- g00035/impl.Query
abbrev D142 : DT := (DT.pair (DT.leaf Ty.str) (DT.pair (DT.leaf Ty.bool) (DT.sl 9 (DT.leaf Ty.str))))   -- g00035/impl.Source
abbrev D161 : DT := (DT.pair (DT.leaf Ty.str) (DT.pair (DT.sl 9 (DT.leaf Ty.str)) (DT.sl 206 (DT.leaf T206))))   -- g00035/laws.Want
abbrev D169 : DT := (DT.pair (DT.sl 5 (DT.leaf Ty.byte)) (DT.pair (DT.leaf (Ty.int .i64)) (DT.leaf (Ty.int .i64))))   -- g00035/spec.l1Cur

theorem ti2 : tinfo Try.prog 2 = some ⟨false, 1, 8, some [.int .i64 0], .int .i64, true⟩ := by kernel_rfl
theorem ti3 : tinfo Try.prog 3 = some ⟨false, 1, 8, some [.int .i64 0], .int .i64, true⟩ := by kernel_rfl
theorem ti4 : tinfo Try.prog 4 = some ⟨false, 1, 1, some [.bool false], .bool, true⟩ := by kernel_rfl
theorem ti5 : tinfo Try.prog 5 = some ⟨false, 1, 1, some [.int .u8 0], .int .u8, true⟩ := by kernel_rfl
theorem ti9 : tinfo Try.prog 9 = some ⟨false, 1, 16, some [.str []], .str, true⟩ := by kernel_rfl
theorem ti12 : tinfo Try.prog 12 = some ⟨false, 1, 8, some [.int .u64 0], .int .u64, true⟩ := by kernel_rfl
theorem ti13 : tinfo Try.prog 13 = some ⟨true, 2, 24, some [.str [], .int .u64 0], .st [(0, 1, 9), (1, 1, 12)], true⟩ := by kernel_rfl
theorem ti21 : tinfo Try.prog 21 = some ⟨false, 1, 4, some [.int .i32 0], .int .i32, true⟩ := by kernel_rfl
theorem ti22 : tinfo Try.prog 22 = some ⟨false, 1, 24, some [.nilsl], .sl 5, true⟩ := by kernel_rfl
theorem ti32 : tinfo Try.prog 32 = some ⟨true, 3, 32, some [.int .i64 0, .int .i64 0, .str []], .st [(0, 1, 3), (1, 1, 3), (2, 1, 9)], true⟩ := by kernel_rfl
theorem ti24 : tinfo Try.prog 24 = some ⟨false, 1, 24, some [.nilsl], .sl 32, true⟩ := by kernel_rfl
theorem ti25 : tinfo Try.prog 25 = some ⟨false, 1, 24, some [.nilsl], .sl 9, true⟩ := by kernel_rfl
theorem ti26 : tinfo Try.prog 26 = some ⟨false, 1, 24, some [.nilsl], .sl 3, true⟩ := by kernel_rfl
theorem ti31 : tinfo Try.prog 31 = some ⟨true, 3, 32, some [.int .i64 0, .int .i64 0, .str []], .st [(0, 1, 3), (1, 1, 3), (2, 1, 9)], true⟩ := by kernel_rfl
theorem ti50 : tinfo Try.prog 50 = some ⟨true, 2, 24, some [.str [], .int .i64 0], .st [(0, 1, 9), (1, 1, 3)], true⟩ := by kernel_rfl
theorem ti34 : tinfo Try.prog 34 = some ⟨false, 1, 24, some [.nilsl], .sl 50, true⟩ := by kernel_rfl
theorem ti48 : tinfo Try.prog 48 = some ⟨true, 2, 24, some [.str [], .int .i64 0], .st [(0, 1, 9), (1, 1, 3)], true⟩ := by kernel_rfl
theorem ti43 : tinfo Try.prog 43 = some ⟨false, 1, 24, some [.nilsl], .sl 48, true⟩ := by kernel_rfl
theorem ti46 : tinfo Try.prog 46 = some ⟨true, 3, 64, some [.str [], .nilsl, .nilsl], .st [(0, 1, 9), (1, 1, 25), (2, 1, 43)], true⟩ := by kernel_rfl
theorem ti35 : tinfo Try.prog 35 = some ⟨false, 1, 24, some [.nilsl], .sl 46, true⟩ := by kernel_rfl
theorem ti38 : tinfo Try.prog 38 = some ⟨false, 1, 24, some [.nilsl], .sl 43, true⟩ := by kernel_rfl
theorem ti45 : tinfo Try.prog 45 = some ⟨true, 3, 64, some [.str [], .nilsl, .nilsl], .st [(0, 1, 9), (1, 1, 25), (2, 1, 43)], true⟩ := by kernel_rfl
theorem ti47 : tinfo Try.prog 47 = some ⟨true, 2, 24, some [.str [], .int .i64 0], .st [(0, 1, 9), (1, 1, 3)], true⟩ := by kernel_rfl
theorem ti49 : tinfo Try.prog 49 = some ⟨true, 2, 24, some [.str [], .int .i64 0], .st [(0, 1, 9), (1, 1, 3)], true⟩ := by kernel_rfl
theorem ti157 : tinfo Try.prog 157 = some ⟨true, 2, 24, some [.str [], .int .i64 0], .st [(0, 1, 9), (1, 1, 3)], true⟩ := by kernel_rfl
theorem ti52 : tinfo Try.prog 52 = some ⟨false, 1, 24, some [.nilsl], .sl 157, true⟩ := by kernel_rfl
theorem ti206 : tinfo Try.prog 206 = some ⟨true, 2, 24, some [.str [], .int .i64 0], .st [(0, 1, 9), (1, 1, 3)], true⟩ := by kernel_rfl
theorem ti159 : tinfo Try.prog 159 = some ⟨false, 1, 24, some [.nilsl], .sl 206, true⟩ := by kernel_rfl
theorem ti182 : tinfo Try.prog 182 = some ⟨true, 7, 120, some [.str [], .str [], .nilsl, .int .i64 0, .int .i64 0, .nilsl, .nilsl], .st [(0, 1, 9), (1, 1, 9), (2, 1, 25), (3, 1, 3), (4, 1, 3), (5, 1, 159), (6, 1, 159)], true⟩ := by kernel_rfl
theorem ti53 : tinfo Try.prog 53 = some ⟨false, 1, 24, some [.nilsl], .sl 182, true⟩ := by kernel_rfl
theorem ti54 : tinfo Try.prog 54 = some ⟨true, 6, 80, some [.int .i64 0, .int .i64 0, .int .i64 0, .int .i64 0, .nilsl, .nilsl], .st [(0, 1, 3), (1, 1, 3), (2, 1, 3), (3, 1, 3), (4, 1, 52), (5, 1, 53)], true⟩ := by kernel_rfl
theorem ti55 : tinfo Try.prog 55 = some ⟨true, 6, 80, some [.int .i64 0, .int .i64 0, .int .i64 0, .int .i64 0, .nilsl, .nilsl], .st [(0, 1, 3), (1, 1, 3), (2, 1, 3), (3, 1, 3), (4, 1, 52), (5, 1, 53)], true⟩ := by kernel_rfl
theorem ti126 : tinfo Try.prog 126 = some ⟨true, 7, 120, some [.str [], .str [], .nilsl, .int .i64 0, .int .i64 0, .nilsl, .nilsl], .st [(0, 1, 9), (1, 1, 9), (2, 1, 25), (3, 1, 3), (4, 1, 3), (5, 1, 43), (6, 1, 43)], true⟩ := by kernel_rfl
theorem ti58 : tinfo Try.prog 58 = some ⟨false, 1, 24, some [.nilsl], .sl 126, true⟩ := by kernel_rfl
theorem ti59 : tinfo Try.prog 59 = some ⟨true, 6, 80, some [.int .i64 0, .int .i64 0, .int .i64 0, .int .i64 0, .nilsl, .nilsl], .st [(0, 1, 3), (1, 1, 3), (2, 1, 3), (3, 1, 3), (4, 1, 34), (5, 1, 58)], true⟩ := by kernel_rfl
theorem ti60 : tinfo Try.prog 60 = some ⟨true, 6, 80, some [.int .i64 0, .int .i64 0, .int .i64 0, .int .i64 0, .nilsl, .nilsl], .st [(0, 1, 3), (1, 1, 3), (2, 1, 3), (3, 1, 3), (4, 1, 34), (5, 1, 58)], true⟩ := by kernel_rfl
theorem ti188 : tinfo Try.prog 188 = some ⟨true, 3, 32, some [.int .i64 0, .int .i64 0, .str []], .st [(0, 1, 3), (1, 1, 3), (2, 1, 9)], true⟩ := by kernel_rfl
theorem ti64 : tinfo Try.prog 64 = some ⟨false, 1, 24, some [.nilsl], .sl 188, true⟩ := by kernel_rfl
theorem ti191 : tinfo Try.prog 191 = some ⟨true, 3, 48, some [.int .i64 0, .nilsl, .str []], .st [(0, 1, 3), (1, 1, 64), (2, 1, 9)], true⟩ := by kernel_rfl
theorem ti65 : tinfo Try.prog 65 = some ⟨false, 1, 24, some [.nilsl], .sl 191, true⟩ := by kernel_rfl
theorem ti66 : tinfo Try.prog 66 = some ⟨true, 11, 168, some [.str [], .str [], .int .i64 0, .str [], .str [], .nilsl, .nilsl, .int .i64 0, .int .i64 0, .int .i64 0, .nilsl], .st [(0, 1, 9), (1, 1, 9), (2, 1, 3), (3, 1, 9), (4, 1, 9), (5, 1, 64), (6, 1, 25), (7, 1, 3), (8, 1, 3), (9, 1, 3), (10, 1, 65)], true⟩ := by kernel_rfl
theorem ti67 : tinfo Try.prog 67 = some ⟨true, 11, 168, some [.str [], .str [], .int .i64 0, .str [], .str [], .nilsl, .nilsl, .int .i64 0, .int .i64 0, .int .i64 0, .nilsl], .st [(0, 1, 9), (1, 1, 9), (2, 1, 3), (3, 1, 9), (4, 1, 9), (5, 1, 64), (6, 1, 25), (7, 1, 3), (8, 1, 3), (9, 1, 3), (10, 1, 65)], true⟩ := by kernel_rfl
theorem ti138 : tinfo Try.prog 138 = some ⟨true, 3, 48, some [.str [], .bool false, .nilsl], .st [(0, 1, 9), (1, 1, 4), (2, 1, 25)], true⟩ := by kernel_rfl
theorem ti68 : tinfo Try.prog 68 = some ⟨false, 1, 24, some [.nilsl], .sl 138, true⟩ := by kernel_rfl
theorem ti144 : tinfo Try.prog 144 = some ⟨true, 3, 48, some [.int .i64 0, .nilsl, .str []], .st [(0, 1, 3), (1, 1, 24), (2, 1, 9)], true⟩ := by kernel_rfl
theorem ti72 : tinfo Try.prog 72 = some ⟨false, 1, 24, some [.nilsl], .sl 144, true⟩ := by kernel_rfl
theorem ti73 : tinfo Try.prog 73 = some ⟨true, 11, 168, some [.str [], .str [], .int .i64 0, .str [], .str [], .nilsl, .nilsl, .int .i64 0, .int .i64 0, .int .i64 0, .nilsl], .st [(0, 1, 9), (1, 1, 9), (2, 1, 3), (3, 1, 9), (4, 1, 9), (5, 1, 24), (6, 1, 25), (7, 1, 3), (8, 1, 3), (9, 1, 3), (10, 1, 72)], true⟩ := by kernel_rfl
theorem ti74 : tinfo Try.prog 74 = some ⟨true, 11, 168, some [.str [], .str [], .int .i64 0, .str [], .str [], .nilsl, .nilsl, .int .i64 0, .int .i64 0, .int .i64 0, .nilsl], .st [(0, 1, 9), (1, 1, 9), (2, 1, 3), (3, 1, 9), (4, 1, 9), (5, 1, 24), (6, 1, 25), (7, 1, 3), (8, 1, 3), (9, 1, 3), (10, 1, 72)], true⟩ := by kernel_rfl
theorem ti142 : tinfo Try.prog 142 = some ⟨true, 3, 48, some [.str [], .bool false, .nilsl], .st [(0, 1, 9), (1, 1, 4), (2, 1, 25)], true⟩ := by kernel_rfl
theorem ti76 : tinfo Try.prog 76 = some ⟨false, 1, 24, some [.nilsl], .sl 142, true⟩ := by kernel_rfl
theorem ti161 : tinfo Try.prog 161 = some ⟨true, 3, 64, some [.str [], .nilsl, .nilsl], .st [(0, 1, 9), (1, 1, 25), (2, 1, 159)], true⟩ := by kernel_rfl
theorem ti85 : tinfo Try.prog 85 = some ⟨false, 1, 24, some [.nilsl], .sl 161, true⟩ := by kernel_rfl
theorem ti169 : tinfo Try.prog 169 = some ⟨true, 3, 40, some [.nilsl, .int .i64 0, .int .i64 0], .st [(0, 1, 22), (1, 1, 3), (2, 1, 3)], true⟩ := by kernel_rfl
theorem ti97 : tinfo Try.prog 97 = some ⟨false, 1, 8, some [.nilp], .ptr 169, true⟩ := by kernel_rfl
theorem ti116 : tinfo Try.prog 116 = some ⟨false, 1, 24, some [.nilsl], .sl 4, true⟩ := by kernel_rfl
theorem ti112 : tinfo Try.prog 112 = some ⟨false, 1, 8, some [.any], .map 9 116, true⟩ := by kernel_rfl
theorem ti113 : tinfo Try.prog 113 = some ⟨false, 1, 8, some [.any], .map 48 3, true⟩ := by kernel_rfl
theorem ti111 : tinfo Try.prog 111 = some ⟨false, 1, 8, some [.nilp], .ptr 115, true⟩ := by kernel_rfl
theorem ti118 : tinfo Try.prog 118 = some ⟨false, 1, 8, some [.any], .map 48 4, true⟩ := by kernel_rfl
theorem ti125 : tinfo Try.prog 125 = some ⟨true, 7, 120, some [.str [], .str [], .nilsl, .int .i64 0, .int .i64 0, .nilsl, .nilsl], .st [(0, 1, 9), (1, 1, 9), (2, 1, 25), (3, 1, 3), (4, 1, 3), (5, 1, 43), (6, 1, 43)], true⟩ := by kernel_rfl
theorem ti129 : tinfo Try.prog 129 = some ⟨false, 1, 8, some [.any], .map 9 4, true⟩ := by kernel_rfl
theorem ti137 : tinfo Try.prog 137 = some ⟨true, 3, 48, some [.str [], .bool false, .nilsl], .st [(0, 1, 9), (1, 1, 4), (2, 1, 25)], true⟩ := by kernel_rfl
theorem ti143 : tinfo Try.prog 143 = some ⟨true, 3, 48, some [.int .i64 0, .nilsl, .str []], .st [(0, 1, 3), (1, 1, 24), (2, 1, 9)], true⟩ := by kernel_rfl
theorem ti160 : tinfo Try.prog 160 = some ⟨true, 3, 64, some [.str [], .nilsl, .nilsl], .st [(0, 1, 9), (1, 1, 25), (2, 1, 159)], true⟩ := by kernel_rfl
theorem ti168 : tinfo Try.prog 168 = some ⟨true, 3, 40, some [.nilsl, .int .i64 0, .int .i64 0], .st [(0, 1, 22), (1, 1, 3), (2, 1, 3)], true⟩ := by kernel_rfl
theorem ti178 : tinfo Try.prog 178 = some ⟨false, 1, 8, some [.nilp], .ptr 46, true⟩ := by kernel_rfl
theorem ti181 : tinfo Try.prog 181 = some ⟨true, 7, 120, some [.str [], .str [], .nilsl, .int .i64 0, .int .i64 0, .nilsl, .nilsl], .st [(0, 1, 9), (1, 1, 9), (2, 1, 25), (3, 1, 3), (4, 1, 3), (5, 1, 159), (6, 1, 159)], true⟩ := by kernel_rfl
theorem ti190 : tinfo Try.prog 190 = some ⟨true, 3, 48, some [.int .i64 0, .nilsl, .str []], .st [(0, 1, 3), (1, 1, 64), (2, 1, 9)], true⟩ := by kernel_rfl
theorem ti203 : tinfo Try.prog 203 = some ⟨false, 1, 8, some [.int .u64 0], .int .u64, true⟩ := by kernel_rfl
theorem ti215 : tinfo Try.prog 215 = some ⟨false, 1, 4, some [.int .u32 0], .int .u32, true⟩ := by kernel_rfl
theorem ti219 : tinfo Try.prog 219 = some ⟨false, 1, 8, some [.nilp], .ptr 5, true⟩ := by kernel_rfl
theorem bi5 : byteI Try.prog 5 = true := by kernel_rfl
theorem st9 : strT Try.prog 9 = true := by kernel_rfl
theorem eqi32 : eqInfo Try.prog 32 = some [.int .i64, .int .i64, .str] := by kernel_rfl
theorem eqi50 : eqInfo Try.prog 50 = some [.str, .int .i64] := by kernel_rfl
theorem eqi48 : eqInfo Try.prog 48 = some [.str, .int .i64] := by kernel_rfl
theorem eqi157 : eqInfo Try.prog 157 = some [.str, .int .i64] := by kernel_rfl
theorem eqi206 : eqInfo Try.prog 206 = some [.str, .int .i64] := by kernel_rfl
theorem eqi188 : eqInfo Try.prog 188 = some [.int .i64, .int .i64, .str] := by kernel_rfl
theorem mi113 : mapInfo Try.prog 113 = some (48, 3, .kst [.str, .int .i64], .int .i64 0) := by kernel_rfl
theorem mi118 : mapInfo Try.prog 118 = some (48, 4, .kst [.str, .int .i64], .bool false) := by kernel_rfl
theorem mi129 : mapInfo Try.prog 129 = some (9, 4, .str, .bool false) := by kernel_rfl
theorem ca3 : callable Try.prog 3 = true := by kernel_rfl   -- laws.FnReckoned
theorem ca4 : callable Try.prog 4 = true := by kernel_rfl   -- laws.FnGivenOnce
theorem ca5 : callable Try.prog 5 = true := by kernel_rfl   -- laws.FnExactGroupOk
theorem ca6 : callable Try.prog 6 = true := by kernel_rfl   -- laws.FnExactStill
theorem ca7 : callable Try.prog 7 = true := by kernel_rfl   -- laws.FnExactInside
theorem ca8 : callable Try.prog 8 = true := by kernel_rfl   -- laws.FnExactAssign
theorem ca9 : callable Try.prog 9 = true := by kernel_rfl   -- laws.FnExactOutside
theorem ca10 : callable Try.prog 10 = true := by kernel_rfl   -- laws.big
theorem ca11 : callable Try.prog 11 = true := by kernel_rfl   -- spec.DrawReckon
theorem ca12 : callable Try.prog 12 = true := by kernel_rfl   -- impl.Reckon
theorem ca13 : callable Try.prog 13 = true := by kernel_rfl   -- spec.Reckon
theorem ca14 : callable Try.prog 14 = true := by kernel_rfl   -- spec.DrawAssign
theorem ca15 : callable Try.prog 15 = true := by kernel_rfl   -- impl.Assign
theorem ca16 : callable Try.prog 16 = true := by kernel_rfl   -- spec.TopicsOk
theorem ca17 : callable Try.prog 17 = true := by kernel_rfl   -- spec.WantsOk
theorem ca18 : callable Try.prog 18 = true := by kernel_rfl   -- laws.wants
theorem ca19 : callable Try.prog 19 = true := by kernel_rfl   -- laws.slots
theorem ca20 : callable Try.prog 20 = true := by kernel_rfl   -- laws.szGroup
theorem ca21 : callable Try.prog 21 = true := by kernel_rfl   -- spec.GroupOk
theorem ca22 : callable Try.prog 22 = true := by kernel_rfl   -- laws.toGroup
theorem ca23 : callable Try.prog 23 = true := by kernel_rfl   -- impl.GroupOk
theorem ca24 : callable Try.prog 24 = true := by kernel_rfl   -- laws.eqGroup
theorem ca25 : callable Try.prog 25 = true := by kernel_rfl   -- spec.Still
theorem ca26 : callable Try.prog 26 = true := by kernel_rfl   -- impl.Still
theorem ca27 : callable Try.prog 27 = true := by kernel_rfl   -- laws.szQuery
theorem ca28 : callable Try.prog 28 = true := by kernel_rfl   -- laws.szSourceS
theorem ca29 : callable Try.prog 29 = true := by kernel_rfl   -- spec.Inside
theorem ca30 : callable Try.prog 30 = true := by kernel_rfl   -- laws.toQuery
theorem ca31 : callable Try.prog 31 = true := by kernel_rfl   -- laws.toSourceS
theorem ca32 : callable Try.prog 32 = true := by kernel_rfl   -- impl.Inside
theorem ca33 : callable Try.prog 33 = true := by kernel_rfl   -- laws.eqStringS
theorem ca34 : callable Try.prog 34 = true := by kernel_rfl   -- laws.eqQuery
theorem ca35 : callable Try.prog 35 = true := by kernel_rfl   -- laws.eqSourceS
theorem ca36 : callable Try.prog 36 = true := by kernel_rfl   -- laws.markQuery
theorem ca37 : callable Try.prog 37 = true := by kernel_rfl   -- laws.markSourceS
theorem ca38 : callable Try.prog 38 = true := by kernel_rfl   -- laws.markStringS
theorem ca39 : callable Try.prog 39 = true := by kernel_rfl   -- laws.heldStringS
theorem ca40 : callable Try.prog 40 = true := by kernel_rfl   -- laws.szTopicS
theorem ca41 : callable Try.prog 41 = true := by kernel_rfl   -- laws.szWantS
theorem ca42 : callable Try.prog 42 = true := by kernel_rfl   -- spec.Assign
theorem ca43 : callable Try.prog 43 = true := by kernel_rfl   -- laws.toTopicS
theorem ca44 : callable Try.prog 44 = true := by kernel_rfl   -- laws.toWantS
theorem ca45 : callable Try.prog 45 = true := by kernel_rfl   -- laws.eqSlotSS
theorem ca46 : callable Try.prog 46 = true := by kernel_rfl   -- laws.eqTopicS
theorem ca47 : callable Try.prog 47 = true := by kernel_rfl   -- laws.eqWantS
theorem ca48 : callable Try.prog 48 = true := by kernel_rfl   -- laws.markTopicS
theorem ca49 : callable Try.prog 49 = true := by kernel_rfl   -- laws.markWantS
theorem ca50 : callable Try.prog 50 = true := by kernel_rfl   -- laws.markSlotSS
theorem ca51 : callable Try.prog 51 = true := by kernel_rfl   -- laws.heldSlotSS
theorem ca52 : callable Try.prog 52 = true := by kernel_rfl   -- spec.Outside
theorem ca53 : callable Try.prog 53 = true := by kernel_rfl   -- impl.Outside
theorem ca54 : callable Try.prog 54 = true := by kernel_rfl   -- spec.l1New
theorem ca55 : callable Try.prog 55 = true := by kernel_rfl   -- spec.l1PickInt
theorem ca56 : callable Try.prog 56 = true := by kernel_rfl   -- spec.l14DrawExpr
theorem ca57 : callable Try.prog 57 = true := by kernel_rfl   -- spec.l1Below
theorem ca58 : callable Try.prog 58 = true := by kernel_rfl   -- impl.stepsOk
theorem ca59 : callable Try.prog 59 = true := by kernel_rfl   -- impl.within
theorem ca60 : callable Try.prog 60 = true := by kernel_rfl   -- slices.Index[[]string,string]
theorem ca61 : callable Try.prog 61 = true := by kernel_rfl   -- impl.truth
theorem ca62 : callable Try.prog 62 = true := by kernel_rfl   -- impl.reckon
theorem ca63 : callable Try.prog 63 = true := by kernel_rfl   -- spec.l14Steps
theorem ca64 : callable Try.prog 64 = true := by kernel_rfl   -- spec.l14Sees
theorem ca65 : callable Try.prog 65 = true := by kernel_rfl   -- spec.l1In
theorem ca66 : callable Try.prog 66 = true := by kernel_rfl   -- spec.l14Bool
theorem ca67 : callable Try.prog 67 = true := by kernel_rfl   -- spec.l14Do
theorem ca68 : callable Try.prog 68 = true := by kernel_rfl   -- spec.l9Draw
theorem ca69 : callable Try.prog 69 = true := by kernel_rfl   -- spec.l9Bent
theorem ca70 : callable Try.prog 70 = true := by kernel_rfl   -- impl.TopicsOk
theorem ca71 : callable Try.prog 71 = true := by kernel_rfl   -- impl.WantsOk
theorem ca72 : callable Try.prog 72 = true := by kernel_rfl   -- (*impl.dealer).give
theorem ca73 : callable Try.prog 73 = true := by kernel_rfl   -- (*impl.dealer).fewest
theorem ca74 : callable Try.prog 74 = true := by kernel_rfl   -- (*impl.dealer).even
theorem ca75 : callable Try.prog 75 = true := by kernel_rfl   -- spec.NameOk
theorem ca76 : callable Try.prog 76 = true := by kernel_rfl   -- spec.l9Names
theorem ca77 : callable Try.prog 77 = true := by kernel_rfl   -- spec.l9Slots
theorem ca78 : callable Try.prog 78 = true := by kernel_rfl   -- spec.l9In
theorem ca79 : callable Try.prog 79 = true := by kernel_rfl   -- laws.szMemberS
theorem ca80 : callable Try.prog 80 = true := by kernel_rfl   -- laws.toMemberS
theorem ca81 : callable Try.prog 81 = true := by kernel_rfl   -- impl.timeOk
theorem ca82 : callable Try.prog 82 = true := by kernel_rfl   -- impl.offsetOk
theorem ca83 : callable Try.prog 83 = true := by kernel_rfl   -- impl.NameOk
theorem ca84 : callable Try.prog 84 = true := by kernel_rfl   -- impl.namesOk
theorem ca85 : callable Try.prog 85 = true := by kernel_rfl   -- impl.slotsOk
theorem ca86 : callable Try.prog 86 = true := by kernel_rfl   -- impl.apart
theorem ca87 : callable Try.prog 87 = true := by kernel_rfl   -- laws.eqMemberS
theorem ca88 : callable Try.prog 88 = true := by kernel_rfl   -- spec.l10SameSlots
theorem ca89 : callable Try.prog 89 = true := by kernel_rfl   -- slices.Equal[[]impl.Slot,impl.Slot]
theorem ca90 : callable Try.prog 90 = true := by kernel_rfl   -- laws.szStepS
theorem ca91 : callable Try.prog 91 = true := by kernel_rfl   -- laws.szStringS
theorem ca92 : callable Try.prog 92 = true := by kernel_rfl   -- laws.szGetS
theorem ca93 : callable Try.prog 93 = true := by kernel_rfl   -- laws.szSource
theorem ca94 : callable Try.prog 94 = true := by kernel_rfl   -- spec.QueryOk
theorem ca95 : callable Try.prog 95 = true := by kernel_rfl   -- spec.SourcesOk
theorem ca96 : callable Try.prog 96 = true := by kernel_rfl   -- spec.l14Source
theorem ca97 : callable Try.prog 97 = true := by kernel_rfl   -- spec.l14Has
theorem ca98 : callable Try.prog 98 = true := by kernel_rfl   -- spec.l14Different
theorem ca99 : callable Try.prog 99 = true := by kernel_rfl   -- laws.toStepS
theorem ca100 : callable Try.prog 100 = true := by kernel_rfl   -- laws.toStringS
theorem ca101 : callable Try.prog 101 = true := by kernel_rfl   -- laws.toGetS
theorem ca102 : callable Try.prog 102 = true := by kernel_rfl   -- laws.toSource
theorem ca103 : callable Try.prog 103 = true := by kernel_rfl   -- impl.QueryOk
theorem ca104 : callable Try.prog 104 = true := by kernel_rfl   -- impl.SourcesOk
theorem ca105 : callable Try.prog 105 = true := by kernel_rfl   -- impl.sourceOf
theorem ca106 : callable Try.prog 106 = true := by kernel_rfl   -- slices.Clone[[]string,string]
theorem ca107 : callable Try.prog 107 = true := by kernel_rfl   -- slices.Contains[[]string,string]
theorem ca108 : callable Try.prog 108 = true := by kernel_rfl   -- impl.colsOf
theorem ca109 : callable Try.prog 109 = true := by kernel_rfl   -- laws.eqStepS
theorem ca110 : callable Try.prog 110 = true := by kernel_rfl   -- laws.eqGetS
theorem ca111 : callable Try.prog 111 = true := by kernel_rfl   -- laws.eqSource
theorem ca112 : callable Try.prog 112 = true := by kernel_rfl   -- laws.markStepS
theorem ca113 : callable Try.prog 113 = true := by kernel_rfl   -- laws.markGetS
theorem ca114 : callable Try.prog 114 = true := by kernel_rfl   -- laws.markText
theorem ca115 : callable Try.prog 115 = true := by kernel_rfl   -- laws.szTopic
theorem ca116 : callable Try.prog 116 = true := by kernel_rfl   -- laws.szWant
theorem ca117 : callable Try.prog 117 = true := by kernel_rfl   -- spec.l9Range
theorem ca118 : callable Try.prog 118 = true := by kernel_rfl   -- spec.l9Turns
theorem ca119 : callable Try.prog 119 = true := by kernel_rfl   -- spec.l9Sticky
theorem ca120 : callable Try.prog 120 = true := by kernel_rfl   -- laws.toTopic
theorem ca121 : callable Try.prog 121 = true := by kernel_rfl   -- laws.toWant
theorem ca122 : callable Try.prog 122 = true := by kernel_rfl   -- laws.eqSlotS
theorem ca123 : callable Try.prog 123 = true := by kernel_rfl   -- laws.eqTopic
theorem ca124 : callable Try.prog 124 = true := by kernel_rfl   -- laws.eqWant
theorem ca125 : callable Try.prog 125 = true := by kernel_rfl   -- laws.markSlotS
theorem ca126 : callable Try.prog 126 = true := by kernel_rfl   -- laws.heldSlotS
theorem ca127 : callable Try.prog 127 = true := by kernel_rfl   -- impl.colsOk
theorem ca128 : callable Try.prog 128 = true := by kernel_rfl   -- spec.l1Once
theorem ca129 : callable Try.prog 129 = true := by kernel_rfl   -- spec.l1Pick
theorem ca130 : callable Try.prog 130 = true := by kernel_rfl   -- spec.l1Byte
theorem ca131 : callable Try.prog 131 = true := by kernel_rfl   -- impl.times
theorem ca132 : callable Try.prog 132 = true := by kernel_rfl   -- spec.l14Kept
theorem ca133 : callable Try.prog 133 = true := by kernel_rfl   -- spec.l14Product
theorem ca134 : callable Try.prog 134 = true := by kernel_rfl   -- spec.l9Topics
theorem ca135 : callable Try.prog 135 = true := by kernel_rfl   -- spec.l1Size
theorem ca136 : callable Try.prog 136 = true := by kernel_rfl   -- spec.l9Members
theorem ca137 : callable Try.prog 137 = true := by kernel_rfl   -- spec.l9Ahead
theorem ca138 : callable Try.prog 138 = true := by kernel_rfl   -- laws.szMember
theorem ca139 : callable Try.prog 139 = true := by kernel_rfl   -- laws.toMember
theorem ca140 : callable Try.prog 140 = true := by kernel_rfl   -- impl.letter
theorem ca141 : callable Try.prog 141 = true := by kernel_rfl   -- impl.digit
theorem ca142 : callable Try.prog 142 = true := by kernel_rfl   -- impl.slotOk
theorem ca143 : callable Try.prog 143 = true := by kernel_rfl   -- impl.slotLess
theorem ca144 : callable Try.prog 144 = true := by kernel_rfl   -- laws.eqMember
theorem ca145 : callable Try.prog 145 = true := by kernel_rfl   -- laws.szStep
theorem ca146 : callable Try.prog 146 = true := by kernel_rfl   -- laws.szGet
theorem ca147 : callable Try.prog 147 = true := by kernel_rfl   -- laws.toStep
theorem ca148 : callable Try.prog 148 = true := by kernel_rfl   -- laws.toGet
theorem ca149 : callable Try.prog 149 = true := by kernel_rfl   -- impl.windowOk
theorem ca150 : callable Try.prog 150 = true := by kernel_rfl   -- slices.IndexFunc[[]impl.Source,impl.Source]
theorem ca151 : callable Try.prog 151 = true := by kernel_rfl   -- impl.sourceOf$1
theorem ca152 : callable Try.prog 152 = true := by kernel_rfl   -- laws.eqStep
theorem ca153 : callable Try.prog 153 = true := by kernel_rfl   -- laws.eqGet
theorem ca154 : callable Try.prog 154 = true := by kernel_rfl   -- laws.szSlotS
theorem ca155 : callable Try.prog 155 = true := by kernel_rfl   -- spec.l9Wants
theorem ca156 : callable Try.prog 156 = true := by kernel_rfl   -- spec.l9All
theorem ca157 : callable Try.prog 157 = true := by kernel_rfl   -- spec.l9Put
theorem ca158 : callable Try.prog 158 = true := by kernel_rfl   -- spec.l9Fewest
theorem ca159 : callable Try.prog 159 = true := by kernel_rfl   -- spec.l9Take
theorem ca160 : callable Try.prog 160 = true := by kernel_rfl   -- laws.toSlotS
theorem ca161 : callable Try.prog 161 = true := by kernel_rfl   -- laws.eqSlot
theorem ca162 : callable Try.prog 162 = true := by kernel_rfl   -- strings.Compare
theorem ca163 : callable Try.prog 163 = true := by kernel_rfl   -- laws.szSlot
theorem ca164 : callable Try.prog 164 = true := by kernel_rfl   -- laws.toSlot
attribute [simp] ti2 ti3 ti4 ti5 ti9 ti12 ti13 ti21 ti22 ti32 ti24 ti25 ti26 ti31 ti50 ti34 ti48 ti43 ti46 ti35 ti38 ti45 ti47 ti49 ti157 ti52 ti206 ti159 ti182 ti53 ti54 ti55 ti126 ti58 ti59 ti60 ti188 ti64 ti191 ti65 ti66 ti67 ti138 ti68 ti144 ti72 ti73 ti74 ti142 ti76 ti161 ti85 ti169 ti97 ti116 ti112 ti113 ti111 ti118 ti125 ti129 ti137 ti143 ti160 ti168 ti178 ti181 ti190 ti203 ti215 ti219 bi5 st9 eqi32 eqi50 eqi48 eqi157 eqi206 eqi188 mi113 mi118 mi129 ca3 ca4 ca5 ca6 ca7 ca8 ca9 ca10 ca11 ca12 ca13 ca14 ca15 ca16 ca17 ca18 ca19 ca20 ca21 ca22 ca23 ca24 ca25 ca26 ca27 ca28 ca29 ca30 ca31 ca32 ca33 ca34 ca35 ca36 ca37 ca38 ca39 ca40 ca41 ca42 ca43 ca44 ca45 ca46 ca47 ca48 ca49 ca50 ca51 ca52 ca53 ca54 ca55 ca56 ca57 ca58 ca59 ca60 ca61 ca62 ca63 ca64 ca65 ca66 ca67 ca68 ca69 ca70 ca71 ca72 ca73 ca74 ca75 ca76 ca77 ca78 ca79 ca80 ca81 ca82 ca83 ca84 ca85 ca86 ca87 ca88 ca89 ca90 ca91 ca92 ca93 ca94 ca95 ca96 ca97 ca98 ca99 ca100 ca101 ca102 ca103 ca104 ca105 ca106 ca107 ca108 ca109 ca110 ca111 ca112 ca113 ca114 ca115 ca116 ca117 ca118 ca119 ca120 ca121 ca122 ca123 ca124 ca125 ca126 ca127 ca128 ca129 ca130 ca131 ca132 ca133 ca134 ca135 ca136 ca137 ca138 ca139 ca140 ca141 ca142 ca143 ca144 ca145 ca146 ca147 ca148 ca149 ca150 ca151 ca152 ca153 ca154 ca155 ca156 ca157 ca158 ca159 ca160 ca161 ca162 ca163 ca164

def tau : TypeId → Option Ty := fun t => match t with
  | 2 => some (Ty.int .i64)
  | 3 => some (Ty.int .i64)
  | 4 => some Ty.bool
  | 5 => some Ty.byte
  | 9 => some Ty.str
  | 12 => some (Ty.int .u64)
  | 13 => some (Ty.pair Ty.str (Ty.int .u64))
  | 21 => some (Ty.int .i32)
  | 22 => some (Ty.sl Ty.byte)
  | 32 => some T32
  | 24 => some (Ty.sl T32)
  | 25 => some (Ty.sl Ty.str)
  | 26 => some (Ty.sl (Ty.int .i64))
  | 31 => some (Ty.pair (Ty.int .i64) (Ty.pair (Ty.int .i64) Ty.str))
  | 50 => some T50
  | 34 => some (Ty.sl T50)
  | 48 => some T48
  | 43 => some (Ty.sl T48)
  | 46 => some T46
  | 35 => some (Ty.sl T46)
  | 38 => some (Ty.sl (Ty.sl T48))
  | 45 => some (Ty.pair Ty.str (Ty.pair (Ty.sl Ty.str) (Ty.sl T48)))
  | 47 => some (Ty.pair Ty.str (Ty.int .i64))
  | 49 => some (Ty.pair Ty.str (Ty.int .i64))
  | 157 => some T157
  | 52 => some (Ty.sl T157)
  | 206 => some T206
  | 159 => some (Ty.sl T206)
  | 182 => some T182
  | 53 => some (Ty.sl T182)
  | 54 => some (Ty.pair (Ty.int .i64) (Ty.pair (Ty.int .i64) (Ty.pair (Ty.int .i64) (Ty.pair (Ty.int .i64) (Ty.pair (Ty.sl T157) (Ty.sl T182))))))
  | 55 => some T55
  | 126 => some T126
  | 58 => some (Ty.sl T126)
  | 59 => some (Ty.pair (Ty.int .i64) (Ty.pair (Ty.int .i64) (Ty.pair (Ty.int .i64) (Ty.pair (Ty.int .i64) (Ty.pair (Ty.sl T50) (Ty.sl T126))))))
  | 60 => some T60
  | 188 => some T188
  | 64 => some (Ty.sl T188)
  | 191 => some T191
  | 65 => some (Ty.sl T191)
  | 66 => some (Ty.pair Ty.str (Ty.pair Ty.str (Ty.pair (Ty.int .i64) (Ty.pair Ty.str (Ty.pair Ty.str (Ty.pair (Ty.sl T188) (Ty.pair (Ty.sl Ty.str) (Ty.pair (Ty.int .i64) (Ty.pair (Ty.int .i64) (Ty.pair (Ty.int .i64) (Ty.sl T191)))))))))))
  | 67 => some T67
  | 138 => some T138
  | 68 => some (Ty.sl T138)
  | 144 => some T144
  | 72 => some (Ty.sl T144)
  | 73 => some (Ty.pair Ty.str (Ty.pair Ty.str (Ty.pair (Ty.int .i64) (Ty.pair Ty.str (Ty.pair Ty.str (Ty.pair (Ty.sl T32) (Ty.pair (Ty.sl Ty.str) (Ty.pair (Ty.int .i64) (Ty.pair (Ty.int .i64) (Ty.pair (Ty.int .i64) (Ty.sl T144)))))))))))
  | 74 => some T74
  | 142 => some T142
  | 76 => some (Ty.sl T142)
  | 161 => some T161
  | 85 => some (Ty.sl T161)
  | 169 => some T169
  | 116 => some (Ty.sl Ty.bool)
  | 125 => some (Ty.pair Ty.str (Ty.pair Ty.str (Ty.pair (Ty.sl Ty.str) (Ty.pair (Ty.int .i64) (Ty.pair (Ty.int .i64) (Ty.pair (Ty.sl T48) (Ty.sl T48)))))))
  | 137 => some (Ty.pair Ty.str (Ty.pair Ty.bool (Ty.sl Ty.str)))
  | 143 => some (Ty.pair (Ty.int .i64) (Ty.pair (Ty.sl T32) Ty.str))
  | 160 => some (Ty.pair Ty.str (Ty.pair (Ty.sl Ty.str) (Ty.sl T206)))
  | 168 => some (Ty.pair (Ty.sl Ty.byte) (Ty.pair (Ty.int .i64) (Ty.int .i64)))
  | 181 => some (Ty.pair Ty.str (Ty.pair Ty.str (Ty.pair (Ty.sl Ty.str) (Ty.pair (Ty.int .i64) (Ty.pair (Ty.int .i64) (Ty.pair (Ty.sl T206) (Ty.sl T206)))))))
  | 190 => some (Ty.pair (Ty.int .i64) (Ty.pair (Ty.sl T188) Ty.str))
  | 203 => some (Ty.int .u64)
  | 215 => some (Ty.int .u32)
  | _ => none
theorem tau2 : tau 2 = some (Ty.int .i64) := rfl
theorem tau3 : tau 3 = some (Ty.int .i64) := rfl
theorem tau4 : tau 4 = some Ty.bool := rfl
theorem tau5 : tau 5 = some Ty.byte := rfl
theorem tau9 : tau 9 = some Ty.str := rfl
theorem tau12 : tau 12 = some (Ty.int .u64) := rfl
theorem tau13 : tau 13 = some (Ty.pair Ty.str (Ty.int .u64)) := rfl
theorem tau21 : tau 21 = some (Ty.int .i32) := rfl
theorem tau22 : tau 22 = some (Ty.sl Ty.byte) := rfl
theorem tau32 : tau 32 = some T32 := rfl
theorem tau24 : tau 24 = some (Ty.sl T32) := rfl
theorem tau25 : tau 25 = some (Ty.sl Ty.str) := rfl
theorem tau26 : tau 26 = some (Ty.sl (Ty.int .i64)) := rfl
theorem tau31 : tau 31 = some (Ty.pair (Ty.int .i64) (Ty.pair (Ty.int .i64) Ty.str)) := rfl
theorem tau50 : tau 50 = some T50 := rfl
theorem tau34 : tau 34 = some (Ty.sl T50) := rfl
theorem tau48 : tau 48 = some T48 := rfl
theorem tau43 : tau 43 = some (Ty.sl T48) := rfl
theorem tau46 : tau 46 = some T46 := rfl
theorem tau35 : tau 35 = some (Ty.sl T46) := rfl
theorem tau38 : tau 38 = some (Ty.sl (Ty.sl T48)) := rfl
theorem tau45 : tau 45 = some (Ty.pair Ty.str (Ty.pair (Ty.sl Ty.str) (Ty.sl T48))) := rfl
theorem tau47 : tau 47 = some (Ty.pair Ty.str (Ty.int .i64)) := rfl
theorem tau49 : tau 49 = some (Ty.pair Ty.str (Ty.int .i64)) := rfl
theorem tau157 : tau 157 = some T157 := rfl
theorem tau52 : tau 52 = some (Ty.sl T157) := rfl
theorem tau206 : tau 206 = some T206 := rfl
theorem tau159 : tau 159 = some (Ty.sl T206) := rfl
theorem tau182 : tau 182 = some T182 := rfl
theorem tau53 : tau 53 = some (Ty.sl T182) := rfl
theorem tau54 : tau 54 = some (Ty.pair (Ty.int .i64) (Ty.pair (Ty.int .i64) (Ty.pair (Ty.int .i64) (Ty.pair (Ty.int .i64) (Ty.pair (Ty.sl T157) (Ty.sl T182)))))) := rfl
theorem tau55 : tau 55 = some T55 := rfl
theorem tau126 : tau 126 = some T126 := rfl
theorem tau58 : tau 58 = some (Ty.sl T126) := rfl
theorem tau59 : tau 59 = some (Ty.pair (Ty.int .i64) (Ty.pair (Ty.int .i64) (Ty.pair (Ty.int .i64) (Ty.pair (Ty.int .i64) (Ty.pair (Ty.sl T50) (Ty.sl T126)))))) := rfl
theorem tau60 : tau 60 = some T60 := rfl
theorem tau188 : tau 188 = some T188 := rfl
theorem tau64 : tau 64 = some (Ty.sl T188) := rfl
theorem tau191 : tau 191 = some T191 := rfl
theorem tau65 : tau 65 = some (Ty.sl T191) := rfl
theorem tau66 : tau 66 = some (Ty.pair Ty.str (Ty.pair Ty.str (Ty.pair (Ty.int .i64) (Ty.pair Ty.str (Ty.pair Ty.str (Ty.pair (Ty.sl T188) (Ty.pair (Ty.sl Ty.str) (Ty.pair (Ty.int .i64) (Ty.pair (Ty.int .i64) (Ty.pair (Ty.int .i64) (Ty.sl T191))))))))))) := rfl
theorem tau67 : tau 67 = some T67 := rfl
theorem tau138 : tau 138 = some T138 := rfl
theorem tau68 : tau 68 = some (Ty.sl T138) := rfl
theorem tau144 : tau 144 = some T144 := rfl
theorem tau72 : tau 72 = some (Ty.sl T144) := rfl
theorem tau73 : tau 73 = some (Ty.pair Ty.str (Ty.pair Ty.str (Ty.pair (Ty.int .i64) (Ty.pair Ty.str (Ty.pair Ty.str (Ty.pair (Ty.sl T32) (Ty.pair (Ty.sl Ty.str) (Ty.pair (Ty.int .i64) (Ty.pair (Ty.int .i64) (Ty.pair (Ty.int .i64) (Ty.sl T144))))))))))) := rfl
theorem tau74 : tau 74 = some T74 := rfl
theorem tau142 : tau 142 = some T142 := rfl
theorem tau76 : tau 76 = some (Ty.sl T142) := rfl
theorem tau161 : tau 161 = some T161 := rfl
theorem tau85 : tau 85 = some (Ty.sl T161) := rfl
theorem tau169 : tau 169 = some T169 := rfl
theorem tau116 : tau 116 = some (Ty.sl Ty.bool) := rfl
theorem tau125 : tau 125 = some (Ty.pair Ty.str (Ty.pair Ty.str (Ty.pair (Ty.sl Ty.str) (Ty.pair (Ty.int .i64) (Ty.pair (Ty.int .i64) (Ty.pair (Ty.sl T48) (Ty.sl T48))))))) := rfl
theorem tau137 : tau 137 = some (Ty.pair Ty.str (Ty.pair Ty.bool (Ty.sl Ty.str))) := rfl
theorem tau143 : tau 143 = some (Ty.pair (Ty.int .i64) (Ty.pair (Ty.sl T32) Ty.str)) := rfl
theorem tau160 : tau 160 = some (Ty.pair Ty.str (Ty.pair (Ty.sl Ty.str) (Ty.sl T206))) := rfl
theorem tau168 : tau 168 = some (Ty.pair (Ty.sl Ty.byte) (Ty.pair (Ty.int .i64) (Ty.int .i64))) := rfl
theorem tau181 : tau 181 = some (Ty.pair Ty.str (Ty.pair Ty.str (Ty.pair (Ty.sl Ty.str) (Ty.pair (Ty.int .i64) (Ty.pair (Ty.int .i64) (Ty.pair (Ty.sl T206) (Ty.sl T206))))))) := rfl
theorem tau190 : tau 190 = some (Ty.pair (Ty.int .i64) (Ty.pair (Ty.sl T188) Ty.str)) := rfl
theorem tau203 : tau 203 = some (Ty.int .u64) := rfl
theorem tau215 : tau 215 = some (Ty.int .u32) := rfl
attribute [simp] tau2 tau3 tau4 tau5 tau9 tau12 tau13 tau21 tau22 tau32 tau24 tau25 tau26 tau31 tau50 tau34 tau48 tau43 tau46 tau35 tau38 tau45 tau47 tau49 tau157 tau52 tau206 tau159 tau182 tau53 tau54 tau55 tau126 tau58 tau59 tau60 tau188 tau64 tau191 tau65 tau66 tau67 tau138 tau68 tau144 tau72 tau73 tau74 tau142 tau76 tau161 tau85 tau169 tau116 tau125 tau137 tau143 tau160 tau168 tau181 tau190 tau203 tau215
theorem mixed : Try.prog.follows .mixedOrders = true := by kernel_rfl
end Go.Proofs.Ytfinneebcfcdjaa
