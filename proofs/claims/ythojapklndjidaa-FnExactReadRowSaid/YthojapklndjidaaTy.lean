/- The types and callees of this seat as facts: written by gen.py. -/
import Derived.Test.YthojapklndjidaaSy20
import Derived.Test.YthojapklndjidaaProg
namespace Go.Proofs.Ythojapklndjidaa
open Go Go.RowKit
set_option linter.all false
set_option maxRecDepth 100000

abbrev T138 : Ty := (Ty.pair (Ty.int .i64) Ty.str)   -- g00035/laws.Item
abbrev T64 : Ty := (Ty.pair (Ty.int .i64) (Ty.pair (Ty.int .i64) (Ty.pair Ty.str (Ty.pair Ty.bool (Ty.sl T138)))))   -- g00035/laws.Value
abbrev T113 : Ty := (Ty.pair Ty.str (Ty.pair (Ty.int .i64) (Ty.pair Ty.bool (Ty.pair Ty.bool (Ty.pair (Ty.sl Ty.str) (Ty.pair Ty.bool T64))))))   -- g00035/laws.Field
abbrev T24 : Ty := (Ty.pair Ty.str (Ty.sl T113))   -- g00035/laws.Schema
abbrev T76 : Ty := (Ty.pair (Ty.int .i64) Ty.str)   -- g00035/impl.Item
abbrev T70 : Ty := (Ty.pair (Ty.int .i64) (Ty.pair (Ty.int .i64) (Ty.pair Ty.str (Ty.pair Ty.bool (Ty.sl T76)))))   -- g00035/impl.Value
abbrev T73 : Ty := (Ty.pair Ty.str (Ty.pair (Ty.int .i64) (Ty.pair Ty.bool (Ty.pair Ty.bool (Ty.pair (Ty.sl Ty.str) (Ty.pair Ty.bool T70))))))   -- g00035/impl.Field
abbrev T32 : Ty := (Ty.pair Ty.str (Ty.sl T73))   -- g00035/impl.Schema
abbrev T130 : Ty := (Ty.pair Ty.str (Ty.pair (Ty.int .i64) (Ty.sl (Ty.int .i64))))   -- g00035/laws.Subject
abbrev T50 : Ty := (Ty.pair (Ty.sl T24) (Ty.sl T130))   -- g00035/laws.Registry
abbrev T101 : Ty := (Ty.pair Ty.str (Ty.pair (Ty.int .i64) (Ty.sl (Ty.int .i64))))   -- g00035/impl.Subject
abbrev T56 : Ty := (Ty.pair (Ty.sl T32) (Ty.sl T101))   -- g00035/impl.Registry
abbrev T92 : Ty := (Ty.pair (Ty.sl Ty.byte) (Ty.pair (Ty.int .i64) (Ty.int .i64)))   -- g00035/impl.rowReader
abbrev D64 : DT := (DT.pair (DT.leaf (Ty.int .i64)) (DT.pair (DT.leaf (Ty.int .i64)) (DT.pair (DT.leaf Ty.str) (DT.pair (DT.leaf Ty.bool) (DT.sl 138 (DT.leaf T138))))))   -- g00035/laws.Value
abbrev D113 : DT := (DT.pair (DT.leaf Ty.str) (DT.pair (DT.leaf (Ty.int .i64)) (DT.pair (DT.leaf Ty.bool) (DT.pair (DT.leaf Ty.bool) (DT.pair (DT.sl 9 (DT.leaf Ty.str)) (DT.pair (DT.leaf Ty.bool) D64))))))   -- g00035/laws.Field
abbrev D24 : DT := (DT.pair (DT.leaf Ty.str) (DT.sl 113 D113))   -- g00035/laws.Schema
abbrev D70 : DT := (DT.pair (DT.leaf (Ty.int .i64)) (DT.pair (DT.leaf (Ty.int .i64)) (DT.pair (DT.leaf Ty.str) (DT.pair (DT.leaf Ty.bool) (DT.sl 76 (DT.leaf T76))))))   -- g00035/impl.Value
abbrev D73 : DT := (DT.pair (DT.leaf Ty.str) (DT.pair (DT.leaf (Ty.int .i64)) (DT.pair (DT.leaf Ty.bool) (DT.pair (DT.leaf Ty.bool) (DT.pair (DT.sl 9 (DT.leaf Ty.str)) (DT.pair (DT.leaf Ty.bool) D70))))))   -- g00035/impl.Field
abbrev D32 : DT := (DT.pair (DT.leaf Ty.str) (DT.sl 73 D73))   -- g00035/impl.Schema
abbrev D130 : DT := (DT.pair (DT.leaf Ty.str) (DT.pair (DT.leaf (Ty.int .i64)) (DT.sl 3 (DT.leaf (Ty.int .i64)))))   -- g00035/laws.Subject
abbrev D50 : DT := (DT.pair (DT.sl 24 D24) (DT.sl 130 D130))   -- g00035/laws.Registry
abbrev D101 : DT := (DT.pair (DT.leaf Ty.str) (DT.pair (DT.leaf (Ty.int .i64)) (DT.sl 3 (DT.leaf (Ty.int .i64)))))   -- g00035/impl.Subject
abbrev D56 : DT := (DT.pair (DT.sl 32 D32) (DT.sl 101 D101))   -- g00035/impl.Registry
abbrev D92 : DT := (DT.pair (DT.sl 5 (DT.leaf Ty.byte)) (DT.pair (DT.leaf (Ty.int .i64)) (DT.leaf (Ty.int .i64))))   -- g00035/impl.rowReader

theorem ti2 : tinfo Try.prog 2 = some ⟨false, 1, 8, some [.int .i64 0], .int .i64, true⟩ := by kernel_rfl
theorem ti3 : tinfo Try.prog 3 = some ⟨false, 1, 8, some [.int .i64 0], .int .i64, true⟩ := by kernel_rfl
theorem ti4 : tinfo Try.prog 4 = some ⟨false, 1, 1, some [.bool false], .bool, true⟩ := by kernel_rfl
theorem ti5 : tinfo Try.prog 5 = some ⟨false, 1, 1, some [.int .u8 0], .int .u8, true⟩ := by kernel_rfl
theorem ti9 : tinfo Try.prog 9 = some ⟨false, 1, 16, some [.str []], .str, true⟩ := by kernel_rfl
theorem ti12 : tinfo Try.prog 12 = some ⟨false, 1, 8, some [.int .u64 0], .int .u64, true⟩ := by kernel_rfl
theorem ti13 : tinfo Try.prog 13 = some ⟨true, 2, 24, some [.str [], .int .u64 0], .st [(0, 1, 9), (1, 1, 12)], true⟩ := by kernel_rfl
theorem ti21 : tinfo Try.prog 21 = some ⟨false, 1, 4, some [.int .i32 0], .int .i32, true⟩ := by kernel_rfl
theorem ti71 : tinfo Try.prog 71 = some ⟨false, 1, 24, some [.nilsl], .sl 9, true⟩ := by kernel_rfl
theorem ti138 : tinfo Try.prog 138 = some ⟨true, 2, 24, some [.int .i64 0, .str []], .st [(0, 1, 3), (1, 1, 9)], true⟩ := by kernel_rfl
theorem ti62 : tinfo Try.prog 62 = some ⟨false, 1, 24, some [.nilsl], .sl 138, true⟩ := by kernel_rfl
theorem ti64 : tinfo Try.prog 64 = some ⟨true, 5, 64, some [.int .i64 0, .int .i64 0, .str [], .bool false, .nilsl], .st [(0, 1, 3), (1, 1, 3), (2, 1, 9), (3, 1, 4), (4, 1, 62)], true⟩ := by kernel_rfl
theorem ti113 : tinfo Try.prog 113 = some ⟨true, 11, 128, some [.str [], .int .i64 0, .bool false, .bool false, .nilsl, .bool false, .int .i64 0, .int .i64 0, .str [], .bool false, .nilsl], .st [(0, 1, 9), (1, 1, 3), (2, 1, 4), (3, 1, 4), (4, 1, 71), (5, 1, 4), (6, 5, 64)], true⟩ := by kernel_rfl
theorem ti22 : tinfo Try.prog 22 = some ⟨false, 1, 24, some [.nilsl], .sl 113, true⟩ := by kernel_rfl
theorem ti23 : tinfo Try.prog 23 = some ⟨true, 2, 40, some [.str [], .nilsl], .st [(0, 1, 9), (1, 1, 22)], true⟩ := by kernel_rfl
theorem ti24 : tinfo Try.prog 24 = some ⟨true, 2, 40, some [.str [], .nilsl], .st [(0, 1, 9), (1, 1, 22)], true⟩ := by kernel_rfl
theorem ti25 : tinfo Try.prog 25 = some ⟨false, 1, 24, some [.nilsl], .sl 64, true⟩ := by kernel_rfl
theorem ti28 : tinfo Try.prog 28 = some ⟨false, 1, 24, some [.nilsl], .sl 5, true⟩ := by kernel_rfl
theorem ti76 : tinfo Try.prog 76 = some ⟨true, 2, 24, some [.int .i64 0, .str []], .st [(0, 1, 3), (1, 1, 9)], true⟩ := by kernel_rfl
theorem ti68 : tinfo Try.prog 68 = some ⟨false, 1, 24, some [.nilsl], .sl 76, true⟩ := by kernel_rfl
theorem ti70 : tinfo Try.prog 70 = some ⟨true, 5, 64, some [.int .i64 0, .int .i64 0, .str [], .bool false, .nilsl], .st [(0, 1, 3), (1, 1, 3), (2, 1, 9), (3, 1, 4), (4, 1, 68)], true⟩ := by kernel_rfl
theorem ti73 : tinfo Try.prog 73 = some ⟨true, 11, 128, some [.str [], .int .i64 0, .bool false, .bool false, .nilsl, .bool false, .int .i64 0, .int .i64 0, .str [], .bool false, .nilsl], .st [(0, 1, 9), (1, 1, 3), (2, 1, 4), (3, 1, 4), (4, 1, 71), (5, 1, 4), (6, 5, 70)], true⟩ := by kernel_rfl
theorem ti30 : tinfo Try.prog 30 = some ⟨false, 1, 24, some [.nilsl], .sl 73, true⟩ := by kernel_rfl
theorem ti31 : tinfo Try.prog 31 = some ⟨true, 2, 40, some [.str [], .nilsl], .st [(0, 1, 9), (1, 1, 30)], true⟩ := by kernel_rfl
theorem ti32 : tinfo Try.prog 32 = some ⟨true, 2, 40, some [.str [], .nilsl], .st [(0, 1, 9), (1, 1, 30)], true⟩ := by kernel_rfl
theorem ti34 : tinfo Try.prog 34 = some ⟨false, 1, 24, some [.nilsl], .sl 70, true⟩ := by kernel_rfl
theorem ti47 : tinfo Try.prog 47 = some ⟨false, 1, 24, some [.nilsl], .sl 24, true⟩ := by kernel_rfl
theorem ti99 : tinfo Try.prog 99 = some ⟨false, 1, 24, some [.nilsl], .sl 3, true⟩ := by kernel_rfl
theorem ti130 : tinfo Try.prog 130 = some ⟨true, 3, 48, some [.str [], .int .i64 0, .nilsl], .st [(0, 1, 9), (1, 1, 3), (2, 1, 99)], true⟩ := by kernel_rfl
theorem ti48 : tinfo Try.prog 48 = some ⟨false, 1, 24, some [.nilsl], .sl 130, true⟩ := by kernel_rfl
theorem ti49 : tinfo Try.prog 49 = some ⟨true, 2, 48, some [.nilsl, .nilsl], .st [(0, 1, 47), (1, 1, 48)], true⟩ := by kernel_rfl
theorem ti50 : tinfo Try.prog 50 = some ⟨true, 2, 48, some [.nilsl, .nilsl], .st [(0, 1, 47), (1, 1, 48)], true⟩ := by kernel_rfl
theorem ti53 : tinfo Try.prog 53 = some ⟨false, 1, 24, some [.nilsl], .sl 32, true⟩ := by kernel_rfl
theorem ti101 : tinfo Try.prog 101 = some ⟨true, 3, 48, some [.str [], .int .i64 0, .nilsl], .st [(0, 1, 9), (1, 1, 3), (2, 1, 99)], true⟩ := by kernel_rfl
theorem ti54 : tinfo Try.prog 54 = some ⟨false, 1, 24, some [.nilsl], .sl 101, true⟩ := by kernel_rfl
theorem ti55 : tinfo Try.prog 55 = some ⟨true, 2, 48, some [.nilsl, .nilsl], .st [(0, 1, 53), (1, 1, 54)], true⟩ := by kernel_rfl
theorem ti56 : tinfo Try.prog 56 = some ⟨true, 2, 48, some [.nilsl, .nilsl], .st [(0, 1, 53), (1, 1, 54)], true⟩ := by kernel_rfl
theorem ti63 : tinfo Try.prog 63 = some ⟨true, 5, 64, some [.int .i64 0, .int .i64 0, .str [], .bool false, .nilsl], .st [(0, 1, 3), (1, 1, 3), (2, 1, 9), (3, 1, 4), (4, 1, 62)], true⟩ := by kernel_rfl
theorem ti69 : tinfo Try.prog 69 = some ⟨true, 5, 64, some [.int .i64 0, .int .i64 0, .str [], .bool false, .nilsl], .st [(0, 1, 3), (1, 1, 3), (2, 1, 9), (3, 1, 4), (4, 1, 68)], true⟩ := by kernel_rfl
theorem ti72 : tinfo Try.prog 72 = some ⟨true, 11, 128, some [.str [], .int .i64 0, .bool false, .bool false, .nilsl, .bool false, .int .i64 0, .int .i64 0, .str [], .bool false, .nilsl], .st [(0, 1, 9), (1, 1, 3), (2, 1, 4), (3, 1, 4), (4, 1, 71), (5, 1, 4), (6, 5, 70)], true⟩ := by kernel_rfl
theorem ti75 : tinfo Try.prog 75 = some ⟨true, 2, 24, some [.int .i64 0, .str []], .st [(0, 1, 3), (1, 1, 9)], true⟩ := by kernel_rfl
theorem ti92 : tinfo Try.prog 92 = some ⟨true, 3, 40, some [.nilsl, .int .i64 0, .int .i64 0], .st [(0, 1, 28), (1, 1, 3), (2, 1, 3)], true⟩ := by kernel_rfl
theorem ti90 : tinfo Try.prog 90 = some ⟨false, 1, 8, some [.nilp], .ptr 92, true⟩ := by kernel_rfl
theorem ti91 : tinfo Try.prog 91 = some ⟨true, 3, 40, some [.nilsl, .int .i64 0, .int .i64 0], .st [(0, 1, 28), (1, 1, 3), (2, 1, 3)], true⟩ := by kernel_rfl
theorem ti98 : tinfo Try.prog 98 = some ⟨false, 1, 24, some [.nilsl], .sl 4, true⟩ := by kernel_rfl
theorem ti100 : tinfo Try.prog 100 = some ⟨true, 3, 48, some [.str [], .int .i64 0, .nilsl], .st [(0, 1, 9), (1, 1, 3), (2, 1, 99)], true⟩ := by kernel_rfl
theorem ti107 : tinfo Try.prog 107 = some ⟨false, 1, 8, some [.any], .map 3 4, true⟩ := by kernel_rfl
theorem ti112 : tinfo Try.prog 112 = some ⟨true, 11, 128, some [.str [], .int .i64 0, .bool false, .bool false, .nilsl, .bool false, .int .i64 0, .int .i64 0, .str [], .bool false, .nilsl], .st [(0, 1, 9), (1, 1, 3), (2, 1, 4), (3, 1, 4), (4, 1, 71), (5, 1, 4), (6, 5, 64)], true⟩ := by kernel_rfl
theorem ti116 : tinfo Try.prog 116 = some ⟨false, 1, 8, some [.int .u64 0], .int .u64, true⟩ := by kernel_rfl
theorem ti120 : tinfo Try.prog 120 = some ⟨false, 1, 8, some [.int .u64 0], .int .u64, true⟩ := by kernel_rfl
theorem ti127 : tinfo Try.prog 127 = some ⟨false, 1, 8, some [.any], .map 9 4, true⟩ := by kernel_rfl
theorem ti151 : tinfo Try.prog 151 = some ⟨false, 1, 8, some [.any], .map 9 3, true⟩ := by kernel_rfl
theorem ti160 : tinfo Try.prog 160 = some ⟨false, 1, 4, some [.int .u32 0], .int .u32, true⟩ := by kernel_rfl
theorem ti164 : tinfo Try.prog 164 = some ⟨false, 1, 8, some [.nilp], .ptr 5, true⟩ := by kernel_rfl
theorem bi5 : byteI Try.prog 5 = true := by kernel_rfl
theorem st9 : strT Try.prog 9 = true := by kernel_rfl
theorem eqi138 : eqInfo Try.prog 138 = some [.int .i64, .str] := by kernel_rfl
theorem eqi76 : eqInfo Try.prog 76 = some [.int .i64, .str] := by kernel_rfl
theorem mi107 : mapInfo Try.prog 107 = some (3, 4, .int .i64, .bool false) := by kernel_rfl
theorem mi127 : mapInfo Try.prog 127 = some (9, 4, .str, .bool false) := by kernel_rfl
theorem mi151 : mapInfo Try.prog 151 = some (9, 3, .str, .int .i64 0) := by kernel_rfl
theorem ca3 : callable Try.prog 3 = true := by kernel_rfl   -- laws.FnExactWriteRow
theorem ca4 : callable Try.prog 4 = true := by kernel_rfl   -- laws.FnExactReadRow
theorem ca5 : callable Try.prog 5 = true := by kernel_rfl   -- laws.FnExactRegistryOk
theorem ca6 : callable Try.prog 6 = true := by kernel_rfl   -- laws.szSchema
theorem ca7 : callable Try.prog 7 = true := by kernel_rfl   -- laws.szValueS
theorem ca8 : callable Try.prog 8 = true := by kernel_rfl   -- spec.WriteRow
theorem ca9 : callable Try.prog 9 = true := by kernel_rfl   -- laws.toSchema
theorem ca10 : callable Try.prog 10 = true := by kernel_rfl   -- laws.toValueS
theorem ca11 : callable Try.prog 11 = true := by kernel_rfl   -- impl.WriteRow
theorem ca12 : callable Try.prog 12 = true := by kernel_rfl   -- laws.eqByteS
theorem ca13 : callable Try.prog 13 = true := by kernel_rfl   -- laws.eqSchema
theorem ca14 : callable Try.prog 14 = true := by kernel_rfl   -- laws.eqValueS
theorem ca15 : callable Try.prog 15 = true := by kernel_rfl   -- laws.markSchema
theorem ca16 : callable Try.prog 16 = true := by kernel_rfl   -- laws.markValueS
theorem ca17 : callable Try.prog 17 = true := by kernel_rfl   -- laws.markByteS
theorem ca18 : callable Try.prog 18 = true := by kernel_rfl   -- laws.heldByteS
theorem ca19 : callable Try.prog 19 = true := by kernel_rfl   -- spec.ReadRow
theorem ca20 : callable Try.prog 20 = true := by kernel_rfl   -- laws.toByteS
theorem ca21 : callable Try.prog 21 = true := by kernel_rfl   -- impl.ReadRow
theorem ca22 : callable Try.prog 22 = true := by kernel_rfl   -- laws.heldValueS
theorem ca23 : callable Try.prog 23 = true := by kernel_rfl   -- laws.szRegistry
theorem ca24 : callable Try.prog 24 = true := by kernel_rfl   -- spec.RegistryOk
theorem ca25 : callable Try.prog 25 = true := by kernel_rfl   -- laws.toRegistry
theorem ca26 : callable Try.prog 26 = true := by kernel_rfl   -- impl.RegistryOk
theorem ca27 : callable Try.prog 27 = true := by kernel_rfl   -- laws.eqRegistry
theorem ca28 : callable Try.prog 28 = true := by kernel_rfl   -- laws.szFieldS
theorem ca29 : callable Try.prog 29 = true := by kernel_rfl   -- laws.szValue
theorem ca30 : callable Try.prog 30 = true := by kernel_rfl   -- spec.l1In
theorem ca31 : callable Try.prog 31 = true := by kernel_rfl   -- spec.RowOk
theorem ca32 : callable Try.prog 32 = true := by kernel_rfl   -- spec.PutInt
theorem ca33 : callable Try.prog 33 = true := by kernel_rfl   -- spec.l13Write
theorem ca34 : callable Try.prog 34 = true := by kernel_rfl   -- laws.toFieldS
theorem ca35 : callable Try.prog 35 = true := by kernel_rfl   -- laws.toValue
theorem ca36 : callable Try.prog 36 = true := by kernel_rfl   -- impl.offsetOk
theorem ca37 : callable Try.prog 37 = true := by kernel_rfl   -- impl.RowOk
theorem ca38 : callable Try.prog 38 = true := by kernel_rfl   -- impl.PutInt
theorem ca39 : callable Try.prog 39 = true := by kernel_rfl   -- impl.putItem
theorem ca40 : callable Try.prog 40 = true := by kernel_rfl   -- laws.eqFieldS
theorem ca41 : callable Try.prog 41 = true := by kernel_rfl   -- laws.eqValue
theorem ca42 : callable Try.prog 42 = true := by kernel_rfl   -- laws.markFieldS
theorem ca43 : callable Try.prog 43 = true := by kernel_rfl   -- laws.markText
theorem ca44 : callable Try.prog 44 = true := by kernel_rfl   -- laws.markItemS
theorem ca45 : callable Try.prog 45 = true := by kernel_rfl   -- spec.SchemaOk
theorem ca46 : callable Try.prog 46 = true := by kernel_rfl   -- spec.l13Number
theorem ca47 : callable Try.prog 47 = true := by kernel_rfl   -- spec.l13Get
theorem ca48 : callable Try.prog 48 = true := by kernel_rfl   -- impl.SchemaOk
theorem ca49 : callable Try.prog 49 = true := by kernel_rfl   -- bytes.HasPrefix
theorem ca50 : callable Try.prog 50 = true := by kernel_rfl   -- (*impl.rowReader).flag
theorem ca51 : callable Try.prog 51 = true := by kernel_rfl   -- (*impl.rowReader).item
theorem ca52 : callable Try.prog 52 = true := by kernel_rfl   -- (*impl.rowReader).int
theorem ca53 : callable Try.prog 53 = true := by kernel_rfl   -- impl.within
theorem ca54 : callable Try.prog 54 = true := by kernel_rfl   -- (*impl.rowReader).fail
theorem ca55 : callable Try.prog 55 = true := by kernel_rfl   -- laws.heldItemS
theorem ca56 : callable Try.prog 56 = true := by kernel_rfl   -- laws.szSchemaS
theorem ca57 : callable Try.prog 57 = true := by kernel_rfl   -- laws.szSubjectS
theorem ca58 : callable Try.prog 58 = true := by kernel_rfl   -- spec.l12Same
theorem ca59 : callable Try.prog 59 = true := by kernel_rfl   -- spec.NameOk
theorem ca60 : callable Try.prog 60 = true := by kernel_rfl   -- spec.l12Mode
theorem ca61 : callable Try.prog 61 = true := by kernel_rfl   -- spec.l5Has
theorem ca62 : callable Try.prog 62 = true := by kernel_rfl   -- spec.Fits
theorem ca63 : callable Try.prog 63 = true := by kernel_rfl   -- laws.toSchemaS
theorem ca64 : callable Try.prog 64 = true := by kernel_rfl   -- laws.toSubjectS
theorem ca65 : callable Try.prog 65 = true := by kernel_rfl   -- impl.sameSchema
theorem ca66 : callable Try.prog 66 = true := by kernel_rfl   -- impl.NameOk
theorem ca67 : callable Try.prog 67 = true := by kernel_rfl   -- impl.modeOk
theorem ca68 : callable Try.prog 68 = true := by kernel_rfl   -- (impl.Registry).versions
theorem ca69 : callable Try.prog 69 = true := by kernel_rfl   -- impl.Fits
theorem ca70 : callable Try.prog 70 = true := by kernel_rfl   -- laws.eqSchemaS
theorem ca71 : callable Try.prog 71 = true := by kernel_rfl   -- laws.eqSubjectS
theorem ca72 : callable Try.prog 72 = true := by kernel_rfl   -- laws.szField
theorem ca73 : callable Try.prog 73 = true := by kernel_rfl   -- laws.szItemS
theorem ca74 : callable Try.prog 74 = true := by kernel_rfl   -- spec.ValueOf
theorem ca75 : callable Try.prog 75 = true := by kernel_rfl   -- spec.l2Text
theorem ca76 : callable Try.prog 76 = true := by kernel_rfl   -- laws.toField
theorem ca77 : callable Try.prog 77 = true := by kernel_rfl   -- laws.toItemS
theorem ca78 : callable Try.prog 78 = true := by kernel_rfl   -- impl.ValueOf
theorem ca79 : callable Try.prog 79 = true := by kernel_rfl   -- impl.putText
theorem ca80 : callable Try.prog 80 = true := by kernel_rfl   -- laws.eqField
theorem ca81 : callable Try.prog 81 = true := by kernel_rfl   -- laws.eqItemS
theorem ca82 : callable Try.prog 82 = true := by kernel_rfl   -- laws.markStringS
theorem ca83 : callable Try.prog 83 = true := by kernel_rfl   -- spec.l13Same
theorem ca84 : callable Try.prog 84 = true := by kernel_rfl   -- spec.GetInt
theorem ca85 : callable Try.prog 85 = true := by kernel_rfl   -- spec.l13Item
theorem ca86 : callable Try.prog 86 = true := by kernel_rfl   -- impl.fieldOk
theorem ca87 : callable Try.prog 87 = true := by kernel_rfl   -- bytes.Equal
theorem ca88 : callable Try.prog 88 = true := by kernel_rfl   -- impl.itemOk
theorem ca89 : callable Try.prog 89 = true := by kernel_rfl   -- impl.GetInt
theorem ca90 : callable Try.prog 90 = true := by kernel_rfl   -- laws.szSubject
theorem ca91 : callable Try.prog 91 = true := by kernel_rfl   -- spec.l12Text
theorem ca92 : callable Try.prog 92 = true := by kernel_rfl   -- spec.CanRead
theorem ca93 : callable Try.prog 93 = true := by kernel_rfl   -- laws.toSubject
theorem ca94 : callable Try.prog 94 = true := by kernel_rfl   -- slices.EqualFunc[[]impl.Field,[]impl.Field,impl.Field,impl.Field]
theorem ca95 : callable Try.prog 95 = true := by kernel_rfl   -- impl.sameSchema$1
theorem ca96 : callable Try.prog 96 = true := by kernel_rfl   -- slices.Equal[[]string,string]
theorem ca97 : callable Try.prog 97 = true := by kernel_rfl   -- impl.sameValue
theorem ca98 : callable Try.prog 98 = true := by kernel_rfl   -- impl.letter
theorem ca99 : callable Try.prog 99 = true := by kernel_rfl   -- impl.digit
theorem ca100 : callable Try.prog 100 = true := by kernel_rfl   -- slices.Contains[[]int,int]
theorem ca101 : callable Try.prog 101 = true := by kernel_rfl   -- impl.CanRead
theorem ca102 : callable Try.prog 102 = true := by kernel_rfl   -- laws.eqSubject
theorem ca103 : callable Try.prog 103 = true := by kernel_rfl   -- laws.szStringS
theorem ca104 : callable Try.prog 104 = true := by kernel_rfl   -- laws.szItem
theorem ca105 : callable Try.prog 105 = true := by kernel_rfl   -- spec.ValueOk
theorem ca106 : callable Try.prog 106 = true := by kernel_rfl   -- laws.toStringS
theorem ca107 : callable Try.prog 107 = true := by kernel_rfl   -- laws.toItem
theorem ca108 : callable Try.prog 108 = true := by kernel_rfl   -- impl.ValueOk
theorem ca109 : callable Try.prog 109 = true := by kernel_rfl   -- laws.eqStringS
theorem ca110 : callable Try.prog 110 = true := by kernel_rfl   -- laws.eqItem
theorem ca111 : callable Try.prog 111 = true := by kernel_rfl   -- impl.isZero
theorem ca112 : callable Try.prog 112 = true := by kernel_rfl   -- impl.textOk
theorem ca113 : callable Try.prog 113 = true := by kernel_rfl   -- laws.szIntS
theorem ca114 : callable Try.prog 114 = true := by kernel_rfl   -- spec.l12Line
theorem ca115 : callable Try.prog 115 = true := by kernel_rfl   -- spec.Matches
theorem ca116 : callable Try.prog 116 = true := by kernel_rfl   -- laws.toIntS
theorem ca117 : callable Try.prog 117 = true := by kernel_rfl   -- slices.Equal[[]impl.Item,impl.Item]
theorem ca118 : callable Try.prog 118 = true := by kernel_rfl   -- slices.Index[[]int,int]
theorem ca119 : callable Try.prog 119 = true := by kernel_rfl   -- impl.matches
theorem ca120 : callable Try.prog 120 = true := by kernel_rfl   -- laws.eqIntS
theorem ca121 : callable Try.prog 121 = true := by kernel_rfl   -- spec.l12Kinds
theorem ca122 : callable Try.prog 122 = true := by kernel_rfl   -- spec.ShowValue
theorem ca123 : callable Try.prog 123 = true := by kernel_rfl   -- spec.l12Find
theorem ca124 : callable Try.prog 124 = true := by kernel_rfl   -- spec.l13Show
theorem ca125 : callable Try.prog 125 = true := by kernel_rfl   -- spec.l1Itoa
attribute [simp] ti2 ti3 ti4 ti5 ti9 ti12 ti13 ti21 ti71 ti138 ti62 ti64 ti113 ti22 ti23 ti24 ti25 ti28 ti76 ti68 ti70 ti73 ti30 ti31 ti32 ti34 ti47 ti99 ti130 ti48 ti49 ti50 ti53 ti101 ti54 ti55 ti56 ti63 ti69 ti72 ti75 ti92 ti90 ti91 ti98 ti100 ti107 ti112 ti116 ti120 ti127 ti151 ti160 ti164 bi5 st9 eqi138 eqi76 mi107 mi127 mi151 ca3 ca4 ca5 ca6 ca7 ca8 ca9 ca10 ca11 ca12 ca13 ca14 ca15 ca16 ca17 ca18 ca19 ca20 ca21 ca22 ca23 ca24 ca25 ca26 ca27 ca28 ca29 ca30 ca31 ca32 ca33 ca34 ca35 ca36 ca37 ca38 ca39 ca40 ca41 ca42 ca43 ca44 ca45 ca46 ca47 ca48 ca49 ca50 ca51 ca52 ca53 ca54 ca55 ca56 ca57 ca58 ca59 ca60 ca61 ca62 ca63 ca64 ca65 ca66 ca67 ca68 ca69 ca70 ca71 ca72 ca73 ca74 ca75 ca76 ca77 ca78 ca79 ca80 ca81 ca82 ca83 ca84 ca85 ca86 ca87 ca88 ca89 ca90 ca91 ca92 ca93 ca94 ca95 ca96 ca97 ca98 ca99 ca100 ca101 ca102 ca103 ca104 ca105 ca106 ca107 ca108 ca109 ca110 ca111 ca112 ca113 ca114 ca115 ca116 ca117 ca118 ca119 ca120 ca121 ca122 ca123 ca124 ca125

def tau : TypeId → Option Ty := fun t => match t with
  | 2 => some (Ty.int .i64)
  | 3 => some (Ty.int .i64)
  | 4 => some Ty.bool
  | 5 => some Ty.byte
  | 9 => some Ty.str
  | 12 => some (Ty.int .u64)
  | 13 => some (Ty.pair Ty.str (Ty.int .u64))
  | 21 => some (Ty.int .i32)
  | 71 => some (Ty.sl Ty.str)
  | 138 => some T138
  | 62 => some (Ty.sl T138)
  | 64 => some T64
  | 113 => some T113
  | 22 => some (Ty.sl T113)
  | 23 => some (Ty.pair Ty.str (Ty.sl T113))
  | 24 => some T24
  | 25 => some (Ty.sl T64)
  | 28 => some (Ty.sl Ty.byte)
  | 76 => some T76
  | 68 => some (Ty.sl T76)
  | 70 => some T70
  | 73 => some T73
  | 30 => some (Ty.sl T73)
  | 31 => some (Ty.pair Ty.str (Ty.sl T73))
  | 32 => some T32
  | 34 => some (Ty.sl T70)
  | 47 => some (Ty.sl T24)
  | 99 => some (Ty.sl (Ty.int .i64))
  | 130 => some T130
  | 48 => some (Ty.sl T130)
  | 49 => some (Ty.pair (Ty.sl T24) (Ty.sl T130))
  | 50 => some T50
  | 53 => some (Ty.sl T32)
  | 101 => some T101
  | 54 => some (Ty.sl T101)
  | 55 => some (Ty.pair (Ty.sl T32) (Ty.sl T101))
  | 56 => some T56
  | 63 => some (Ty.pair (Ty.int .i64) (Ty.pair (Ty.int .i64) (Ty.pair Ty.str (Ty.pair Ty.bool (Ty.sl T138)))))
  | 69 => some (Ty.pair (Ty.int .i64) (Ty.pair (Ty.int .i64) (Ty.pair Ty.str (Ty.pair Ty.bool (Ty.sl T76)))))
  | 72 => some (Ty.pair Ty.str (Ty.pair (Ty.int .i64) (Ty.pair Ty.bool (Ty.pair Ty.bool (Ty.pair (Ty.sl Ty.str) (Ty.pair Ty.bool T70))))))
  | 75 => some (Ty.pair (Ty.int .i64) Ty.str)
  | 92 => some T92
  | 91 => some (Ty.pair (Ty.sl Ty.byte) (Ty.pair (Ty.int .i64) (Ty.int .i64)))
  | 98 => some (Ty.sl Ty.bool)
  | 100 => some (Ty.pair Ty.str (Ty.pair (Ty.int .i64) (Ty.sl (Ty.int .i64))))
  | 112 => some (Ty.pair Ty.str (Ty.pair (Ty.int .i64) (Ty.pair Ty.bool (Ty.pair Ty.bool (Ty.pair (Ty.sl Ty.str) (Ty.pair Ty.bool T64))))))
  | 116 => some (Ty.int .u64)
  | 120 => some (Ty.int .u64)
  | 160 => some (Ty.int .u32)
  | _ => none
theorem tau2 : tau 2 = some (Ty.int .i64) := rfl
theorem tau3 : tau 3 = some (Ty.int .i64) := rfl
theorem tau4 : tau 4 = some Ty.bool := rfl
theorem tau5 : tau 5 = some Ty.byte := rfl
theorem tau9 : tau 9 = some Ty.str := rfl
theorem tau12 : tau 12 = some (Ty.int .u64) := rfl
theorem tau13 : tau 13 = some (Ty.pair Ty.str (Ty.int .u64)) := rfl
theorem tau21 : tau 21 = some (Ty.int .i32) := rfl
theorem tau71 : tau 71 = some (Ty.sl Ty.str) := rfl
theorem tau138 : tau 138 = some T138 := rfl
theorem tau62 : tau 62 = some (Ty.sl T138) := rfl
theorem tau64 : tau 64 = some T64 := rfl
theorem tau113 : tau 113 = some T113 := rfl
theorem tau22 : tau 22 = some (Ty.sl T113) := rfl
theorem tau23 : tau 23 = some (Ty.pair Ty.str (Ty.sl T113)) := rfl
theorem tau24 : tau 24 = some T24 := rfl
theorem tau25 : tau 25 = some (Ty.sl T64) := rfl
theorem tau28 : tau 28 = some (Ty.sl Ty.byte) := rfl
theorem tau76 : tau 76 = some T76 := rfl
theorem tau68 : tau 68 = some (Ty.sl T76) := rfl
theorem tau70 : tau 70 = some T70 := rfl
theorem tau73 : tau 73 = some T73 := rfl
theorem tau30 : tau 30 = some (Ty.sl T73) := rfl
theorem tau31 : tau 31 = some (Ty.pair Ty.str (Ty.sl T73)) := rfl
theorem tau32 : tau 32 = some T32 := rfl
theorem tau34 : tau 34 = some (Ty.sl T70) := rfl
theorem tau47 : tau 47 = some (Ty.sl T24) := rfl
theorem tau99 : tau 99 = some (Ty.sl (Ty.int .i64)) := rfl
theorem tau130 : tau 130 = some T130 := rfl
theorem tau48 : tau 48 = some (Ty.sl T130) := rfl
theorem tau49 : tau 49 = some (Ty.pair (Ty.sl T24) (Ty.sl T130)) := rfl
theorem tau50 : tau 50 = some T50 := rfl
theorem tau53 : tau 53 = some (Ty.sl T32) := rfl
theorem tau101 : tau 101 = some T101 := rfl
theorem tau54 : tau 54 = some (Ty.sl T101) := rfl
theorem tau55 : tau 55 = some (Ty.pair (Ty.sl T32) (Ty.sl T101)) := rfl
theorem tau56 : tau 56 = some T56 := rfl
theorem tau63 : tau 63 = some (Ty.pair (Ty.int .i64) (Ty.pair (Ty.int .i64) (Ty.pair Ty.str (Ty.pair Ty.bool (Ty.sl T138))))) := rfl
theorem tau69 : tau 69 = some (Ty.pair (Ty.int .i64) (Ty.pair (Ty.int .i64) (Ty.pair Ty.str (Ty.pair Ty.bool (Ty.sl T76))))) := rfl
theorem tau72 : tau 72 = some (Ty.pair Ty.str (Ty.pair (Ty.int .i64) (Ty.pair Ty.bool (Ty.pair Ty.bool (Ty.pair (Ty.sl Ty.str) (Ty.pair Ty.bool T70)))))) := rfl
theorem tau75 : tau 75 = some (Ty.pair (Ty.int .i64) Ty.str) := rfl
theorem tau92 : tau 92 = some T92 := rfl
theorem tau91 : tau 91 = some (Ty.pair (Ty.sl Ty.byte) (Ty.pair (Ty.int .i64) (Ty.int .i64))) := rfl
theorem tau98 : tau 98 = some (Ty.sl Ty.bool) := rfl
theorem tau100 : tau 100 = some (Ty.pair Ty.str (Ty.pair (Ty.int .i64) (Ty.sl (Ty.int .i64)))) := rfl
theorem tau112 : tau 112 = some (Ty.pair Ty.str (Ty.pair (Ty.int .i64) (Ty.pair Ty.bool (Ty.pair Ty.bool (Ty.pair (Ty.sl Ty.str) (Ty.pair Ty.bool T64)))))) := rfl
theorem tau116 : tau 116 = some (Ty.int .u64) := rfl
theorem tau120 : tau 120 = some (Ty.int .u64) := rfl
theorem tau160 : tau 160 = some (Ty.int .u32) := rfl
attribute [simp] tau2 tau3 tau4 tau5 tau9 tau12 tau13 tau21 tau71 tau138 tau62 tau64 tau113 tau22 tau23 tau24 tau25 tau28 tau76 tau68 tau70 tau73 tau30 tau31 tau32 tau34 tau47 tau99 tau130 tau48 tau49 tau50 tau53 tau101 tau54 tau55 tau56 tau63 tau69 tau72 tau75 tau92 tau91 tau98 tau100 tau112 tau116 tau120 tau160
theorem mixed : Try.prog.follows .mixedOrders = true := by kernel_rfl
end Go.Proofs.Ythojapklndjidaa
