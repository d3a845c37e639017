/- The types and callees of this seat as facts: written by gen.py. -/
import Derived.Test.YtjkdbippldbcmaaSy20
import Derived.Test.YtjkdbippldbcmaaProg
namespace Go.Proofs.Ytjkdbippldbcmaa
open Go Go.RowKit
set_option linter.all false
set_option maxRecDepth 100000

abbrev T142 : Ty := (Ty.pair (Ty.int .i64) Ty.str)   -- g00035/laws.Item
abbrev T24 : Ty := (Ty.pair (Ty.int .i64) (Ty.pair (Ty.int .i64) (Ty.pair Ty.str (Ty.pair Ty.bool (Ty.sl T142)))))   -- g00035/laws.Value
abbrev T101 : Ty := (Ty.pair (Ty.int .i64) Ty.str)   -- g00035/impl.Item
abbrev T29 : Ty := (Ty.pair (Ty.int .i64) (Ty.pair (Ty.int .i64) (Ty.pair Ty.str (Ty.pair Ty.bool (Ty.sl T101)))))   -- g00035/impl.Value
abbrev T35 : Ty := (Ty.pair Ty.str (Ty.pair (Ty.int .i64) (Ty.pair Ty.bool (Ty.pair Ty.bool (Ty.pair (Ty.sl Ty.str) (Ty.pair Ty.bool T24))))))   -- g00035/laws.Field
abbrev T39 : Ty := (Ty.pair Ty.str (Ty.pair (Ty.int .i64) (Ty.pair Ty.bool (Ty.pair Ty.bool (Ty.pair (Ty.sl Ty.str) (Ty.pair Ty.bool T29))))))   -- g00035/impl.Field
abbrev T45 : Ty := (Ty.pair Ty.str (Ty.sl T35))   -- g00035/laws.Schema
abbrev T50 : Ty := (Ty.pair Ty.str (Ty.sl T39))   -- g00035/impl.Schema
abbrev T155 : Ty := (Ty.pair Ty.str (Ty.pair (Ty.int .i64) (Ty.sl (Ty.int .i64))))   -- g00035/laws.Subject
abbrev T89 : Ty := (Ty.pair (Ty.sl T45) (Ty.sl T155))   -- g00035/laws.Registry
abbrev T136 : Ty := (Ty.pair Ty.str (Ty.pair (Ty.int .i64) (Ty.sl (Ty.int .i64))))   -- g00035/impl.Subject
abbrev T94 : Ty := (Ty.pair (Ty.sl T50) (Ty.sl T136))   -- g00035/impl.Registry
abbrev T129 : Ty := (Ty.pair (Ty.sl Ty.byte) (Ty.pair (Ty.int .i64) (Ty.int .i64)))   -- g00035/impl.rowReader
abbrev D24 : DT := (DT.pair (DT.leaf (Ty.int .i64)) (DT.pair (DT.leaf (Ty.int .i64)) (DT.pair (DT.leaf Ty.str) (DT.pair (DT.leaf Ty.bool) (DT.sl 142 (DT.leaf T142))))))   -- g00035/laws.Value
abbrev D29 : DT := (DT.pair (DT.leaf (Ty.int .i64)) (DT.pair (DT.leaf (Ty.int .i64)) (DT.pair (DT.leaf Ty.str) (DT.pair (DT.leaf Ty.bool) (DT.sl 101 (DT.leaf T101))))))   -- g00035/impl.Value
abbrev D35 : DT := (DT.pair (DT.leaf Ty.str) (DT.pair (DT.leaf (Ty.int .i64)) (DT.pair (DT.leaf Ty.bool) (DT.pair (DT.leaf Ty.bool) (DT.pair (DT.sl 9 (DT.leaf Ty.str)) (DT.pair (DT.leaf Ty.bool) D24))))))   -- g00035/laws.Field
abbrev D39 : DT := (DT.pair (DT.leaf Ty.str) (DT.pair (DT.leaf (Ty.int .i64)) (DT.pair (DT.leaf Ty.bool) (DT.pair (DT.leaf Ty.bool) (DT.pair (DT.sl 9 (DT.leaf Ty.str)) (DT.pair (DT.leaf Ty.bool) D29))))))   -- g00035/impl.Field
abbrev D45 : DT := (DT.pair (DT.leaf Ty.str) (DT.sl 35 D35))   -- g00035/laws.Schema
abbrev D50 : DT := (DT.pair (DT.leaf Ty.str) (DT.sl 39 D39))   -- g00035/impl.Schema
abbrev D155 : DT := (DT.pair (DT.leaf Ty.str) (DT.pair (DT.leaf (Ty.int .i64)) (DT.sl 3 (DT.leaf (Ty.int .i64)))))   -- g00035/laws.Subject
abbrev D89 : DT := (DT.pair (DT.sl 45 D45) (DT.sl 155 D155))   -- g00035/laws.Registry
abbrev D136 : DT := (DT.pair (DT.leaf Ty.str) (DT.pair (DT.leaf (Ty.int .i64)) (DT.sl 3 (DT.leaf (Ty.int .i64)))))   -- g00035/impl.Subject
abbrev D94 : DT := (DT.pair (DT.sl 50 D50) (DT.sl 136 D136))   -- g00035/impl.Registry
abbrev D129 : DT := (DT.pair (DT.sl 5 (DT.leaf Ty.byte)) (DT.pair (DT.leaf (Ty.int .i64)) (DT.leaf (Ty.int .i64))))   -- g00035/impl.rowReader

theorem ti2 : tinfo Try.prog 2 = some ⟨false, 1, 8, some [.int .i64 0], .int .i64, true⟩ := by kernel_rfl
theorem ti3 : tinfo Try.prog 3 = some ⟨false, 1, 8, some [.int .i64 0], .int .i64, true⟩ := by kernel_rfl
theorem ti4 : tinfo Try.prog 4 = some ⟨false, 1, 1, some [.bool false], .bool, true⟩ := by kernel_rfl
theorem ti5 : tinfo Try.prog 5 = some ⟨false, 1, 1, some [.int .u8 0], .int .u8, true⟩ := by kernel_rfl
theorem ti9 : tinfo Try.prog 9 = some ⟨false, 1, 16, some [.str []], .str, true⟩ := by kernel_rfl
theorem ti12 : tinfo Try.prog 12 = some ⟨false, 1, 8, some [.int .u64 0], .int .u64, true⟩ := by kernel_rfl
theorem ti13 : tinfo Try.prog 13 = some ⟨true, 2, 24, some [.str [], .int .u64 0], .st [(0, 1, 9), (1, 1, 12)], true⟩ := by kernel_rfl
theorem ti21 : tinfo Try.prog 21 = some ⟨false, 1, 4, some [.int .i32 0], .int .i32, true⟩ := by kernel_rfl
theorem ti142 : tinfo Try.prog 142 = some ⟨true, 2, 24, some [.int .i64 0, .str []], .st [(0, 1, 3), (1, 1, 9)], true⟩ := by kernel_rfl
theorem ti22 : tinfo Try.prog 22 = some ⟨false, 1, 24, some [.nilsl], .sl 142, true⟩ := by kernel_rfl
theorem ti23 : tinfo Try.prog 23 = some ⟨true, 5, 64, some [.int .i64 0, .int .i64 0, .str [], .bool false, .nilsl], .st [(0, 1, 3), (1, 1, 3), (2, 1, 9), (3, 1, 4), (4, 1, 22)], true⟩ := by kernel_rfl
theorem ti24 : tinfo Try.prog 24 = some ⟨true, 5, 64, some [.int .i64 0, .int .i64 0, .str [], .bool false, .nilsl], .st [(0, 1, 3), (1, 1, 3), (2, 1, 9), (3, 1, 4), (4, 1, 22)], true⟩ := by kernel_rfl
theorem ti101 : tinfo Try.prog 101 = some ⟨true, 2, 24, some [.int .i64 0, .str []], .st [(0, 1, 3), (1, 1, 9)], true⟩ := by kernel_rfl
theorem ti27 : tinfo Try.prog 27 = some ⟨false, 1, 24, some [.nilsl], .sl 101, true⟩ := by kernel_rfl
theorem ti28 : tinfo Try.prog 28 = some ⟨true, 5, 64, some [.int .i64 0, .int .i64 0, .str [], .bool false, .nilsl], .st [(0, 1, 3), (1, 1, 3), (2, 1, 9), (3, 1, 4), (4, 1, 27)], true⟩ := by kernel_rfl
theorem ti29 : tinfo Try.prog 29 = some ⟨true, 5, 64, some [.int .i64 0, .int .i64 0, .str [], .bool false, .nilsl], .st [(0, 1, 3), (1, 1, 3), (2, 1, 9), (3, 1, 4), (4, 1, 27)], true⟩ := by kernel_rfl
theorem ti33 : tinfo Try.prog 33 = some ⟨false, 1, 24, some [.nilsl], .sl 9, true⟩ := by kernel_rfl
theorem ti34 : tinfo Try.prog 34 = some ⟨true, 11, 128, some [.str [], .int .i64 0, .bool false, .bool false, .nilsl, .bool false, .int .i64 0, .int .i64 0, .str [], .bool false, .nilsl], .st [(0, 1, 9), (1, 1, 3), (2, 1, 4), (3, 1, 4), (4, 1, 33), (5, 1, 4), (6, 5, 24)], true⟩ := by kernel_rfl
theorem ti35 : tinfo Try.prog 35 = some ⟨true, 11, 128, some [.str [], .int .i64 0, .bool false, .bool false, .nilsl, .bool false, .int .i64 0, .int .i64 0, .str [], .bool false, .nilsl], .st [(0, 1, 9), (1, 1, 3), (2, 1, 4), (3, 1, 4), (4, 1, 33), (5, 1, 4), (6, 5, 24)], true⟩ := by kernel_rfl
theorem ti38 : tinfo Try.prog 38 = some ⟨true, 11, 128, some [.str [], .int .i64 0, .bool false, .bool false, .nilsl, .bool false, .int .i64 0, .int .i64 0, .str [], .bool false, .nilsl], .st [(0, 1, 9), (1, 1, 3), (2, 1, 4), (3, 1, 4), (4, 1, 33), (5, 1, 4), (6, 5, 29)], true⟩ := by kernel_rfl
theorem ti39 : tinfo Try.prog 39 = some ⟨true, 11, 128, some [.str [], .int .i64 0, .bool false, .bool false, .nilsl, .bool false, .int .i64 0, .int .i64 0, .str [], .bool false, .nilsl], .st [(0, 1, 9), (1, 1, 3), (2, 1, 4), (3, 1, 4), (4, 1, 33), (5, 1, 4), (6, 5, 29)], true⟩ := by kernel_rfl
theorem ti43 : tinfo Try.prog 43 = some ⟨false, 1, 24, some [.nilsl], .sl 35, true⟩ := by kernel_rfl
theorem ti44 : tinfo Try.prog 44 = some ⟨true, 2, 40, some [.str [], .nilsl], .st [(0, 1, 9), (1, 1, 43)], true⟩ := by kernel_rfl
theorem ti45 : tinfo Try.prog 45 = some ⟨true, 2, 40, some [.str [], .nilsl], .st [(0, 1, 9), (1, 1, 43)], true⟩ := by kernel_rfl
theorem ti48 : tinfo Try.prog 48 = some ⟨false, 1, 24, some [.nilsl], .sl 39, true⟩ := by kernel_rfl
theorem ti49 : tinfo Try.prog 49 = some ⟨true, 2, 40, some [.str [], .nilsl], .st [(0, 1, 9), (1, 1, 48)], true⟩ := by kernel_rfl
theorem ti50 : tinfo Try.prog 50 = some ⟨true, 2, 40, some [.str [], .nilsl], .st [(0, 1, 9), (1, 1, 48)], true⟩ := by kernel_rfl
theorem ti54 : tinfo Try.prog 54 = some ⟨false, 1, 24, some [.nilsl], .sl 24, true⟩ := by kernel_rfl
theorem ti57 : tinfo Try.prog 57 = some ⟨false, 1, 24, some [.nilsl], .sl 29, true⟩ := by kernel_rfl
theorem ti62 : tinfo Try.prog 62 = some ⟨false, 1, 24, some [.nilsl], .sl 3, true⟩ := by kernel_rfl
theorem ti67 : tinfo Try.prog 67 = some ⟨false, 1, 24, some [.nilsl], .sl 45, true⟩ := by kernel_rfl
theorem ti70 : tinfo Try.prog 70 = some ⟨false, 1, 24, some [.nilsl], .sl 50, true⟩ := by kernel_rfl
theorem ti74 : tinfo Try.prog 74 = some ⟨false, 1, 24, some [.nilsl], .sl 5, true⟩ := by kernel_rfl
theorem ti155 : tinfo Try.prog 155 = some ⟨true, 3, 48, some [.str [], .int .i64 0, .nilsl], .st [(0, 1, 9), (1, 1, 3), (2, 1, 62)], true⟩ := by kernel_rfl
theorem ti87 : tinfo Try.prog 87 = some ⟨false, 1, 24, some [.nilsl], .sl 155, true⟩ := by kernel_rfl
theorem ti88 : tinfo Try.prog 88 = some ⟨true, 2, 48, some [.nilsl, .nilsl], .st [(0, 1, 67), (1, 1, 87)], true⟩ := by kernel_rfl
theorem ti89 : tinfo Try.prog 89 = some ⟨true, 2, 48, some [.nilsl, .nilsl], .st [(0, 1, 67), (1, 1, 87)], true⟩ := by kernel_rfl
theorem ti136 : tinfo Try.prog 136 = some ⟨true, 3, 48, some [.str [], .int .i64 0, .nilsl], .st [(0, 1, 9), (1, 1, 3), (2, 1, 62)], true⟩ := by kernel_rfl
theorem ti92 : tinfo Try.prog 92 = some ⟨false, 1, 24, some [.nilsl], .sl 136, true⟩ := by kernel_rfl
theorem ti93 : tinfo Try.prog 93 = some ⟨true, 2, 48, some [.nilsl, .nilsl], .st [(0, 1, 70), (1, 1, 92)], true⟩ := by kernel_rfl
theorem ti94 : tinfo Try.prog 94 = some ⟨true, 2, 48, some [.nilsl, .nilsl], .st [(0, 1, 70), (1, 1, 92)], true⟩ := by kernel_rfl
theorem ti100 : tinfo Try.prog 100 = some ⟨true, 2, 24, some [.int .i64 0, .str []], .st [(0, 1, 3), (1, 1, 9)], true⟩ := by kernel_rfl
theorem ti111 : tinfo Try.prog 111 = some ⟨false, 1, 8, some [.any], .map 9 4, true⟩ := by kernel_rfl
theorem ti114 : tinfo Try.prog 114 = some ⟨false, 1, 8, some [.any], .map 3 4, true⟩ := by kernel_rfl
theorem ti129 : tinfo Try.prog 129 = some ⟨true, 3, 40, some [.nilsl, .int .i64 0, .int .i64 0], .st [(0, 1, 74), (1, 1, 3), (2, 1, 3)], true⟩ := by kernel_rfl
theorem ti127 : tinfo Try.prog 127 = some ⟨false, 1, 8, some [.nilp], .ptr 129, true⟩ := by kernel_rfl
theorem ti128 : tinfo Try.prog 128 = some ⟨true, 3, 40, some [.nilsl, .int .i64 0, .int .i64 0], .st [(0, 1, 74), (1, 1, 3), (2, 1, 3)], true⟩ := by kernel_rfl
theorem ti134 : tinfo Try.prog 134 = some ⟨false, 1, 24, some [.nilsl], .sl 4, true⟩ := by kernel_rfl
theorem ti135 : tinfo Try.prog 135 = some ⟨true, 3, 48, some [.str [], .int .i64 0, .nilsl], .st [(0, 1, 9), (1, 1, 3), (2, 1, 62)], true⟩ := by kernel_rfl
theorem ti146 : tinfo Try.prog 146 = some ⟨false, 1, 8, some [.any], .map 9 3, true⟩ := by kernel_rfl
theorem ti148 : tinfo Try.prog 148 = some ⟨false, 1, 8, some [.int .u64 0], .int .u64, true⟩ := by kernel_rfl
theorem ti150 : tinfo Try.prog 150 = some ⟨false, 1, 8, some [.int .u64 0], .int .u64, true⟩ := by kernel_rfl
theorem ti171 : tinfo Try.prog 171 = some ⟨false, 1, 4, some [.int .u32 0], .int .u32, true⟩ := by kernel_rfl
theorem ti175 : tinfo Try.prog 175 = some ⟨false, 1, 8, some [.nilp], .ptr 5, true⟩ := by kernel_rfl
theorem eqi142 : eqInfo Try.prog 142 = some [.int .i64, .str] := by kernel_rfl
theorem eqi101 : eqInfo Try.prog 101 = some [.int .i64, .str] := by kernel_rfl
theorem mi111 : mapInfo Try.prog 111 = some (9, 4, .str, .bool false) := by kernel_rfl
theorem mi114 : mapInfo Try.prog 114 = some (3, 4, .int .i64, .bool false) := by kernel_rfl
theorem mi146 : mapInfo Try.prog 146 = some (9, 3, .str, .int .i64 0) := by kernel_rfl
theorem ca3 : callable Try.prog 3 = true := by kernel_rfl   -- laws.FnExactValueOk
theorem ca4 : callable Try.prog 4 = true := by kernel_rfl   -- laws.FnExactValueOf
theorem ca5 : callable Try.prog 5 = true := by kernel_rfl   -- laws.FnExactSchemaOk
theorem ca6 : callable Try.prog 6 = true := by kernel_rfl   -- laws.FnExactRowOk
theorem ca7 : callable Try.prog 7 = true := by kernel_rfl   -- laws.FnExactCanRead
theorem ca8 : callable Try.prog 8 = true := by kernel_rfl   -- laws.FnExactMatches
theorem ca9 : callable Try.prog 9 = true := by kernel_rfl   -- laws.FnExactFits
theorem ca10 : callable Try.prog 10 = true := by kernel_rfl   -- laws.FnExactWriteRow
theorem ca11 : callable Try.prog 11 = true := by kernel_rfl   -- laws.FnExactResolve
theorem ca12 : callable Try.prog 12 = true := by kernel_rfl   -- laws.FnExactReadRow
theorem ca13 : callable Try.prog 13 = true := by kernel_rfl   -- laws.FnExactRegistryOk
theorem ca14 : callable Try.prog 14 = true := by kernel_rfl   -- laws.szValue
theorem ca15 : callable Try.prog 15 = true := by kernel_rfl   -- spec.ValueOk
theorem ca16 : callable Try.prog 16 = true := by kernel_rfl   -- laws.toValue
theorem ca17 : callable Try.prog 17 = true := by kernel_rfl   -- impl.ValueOk
theorem ca18 : callable Try.prog 18 = true := by kernel_rfl   -- laws.eqValue
theorem ca19 : callable Try.prog 19 = true := by kernel_rfl   -- laws.szField
theorem ca20 : callable Try.prog 20 = true := by kernel_rfl   -- spec.ValueOf
theorem ca21 : callable Try.prog 21 = true := by kernel_rfl   -- laws.toField
theorem ca22 : callable Try.prog 22 = true := by kernel_rfl   -- impl.ValueOf
theorem ca23 : callable Try.prog 23 = true := by kernel_rfl   -- laws.eqField
theorem ca24 : callable Try.prog 24 = true := by kernel_rfl   -- laws.szSchema
theorem ca25 : callable Try.prog 25 = true := by kernel_rfl   -- spec.SchemaOk
theorem ca26 : callable Try.prog 26 = true := by kernel_rfl   -- laws.toSchema
theorem ca27 : callable Try.prog 27 = true := by kernel_rfl   -- impl.SchemaOk
theorem ca28 : callable Try.prog 28 = true := by kernel_rfl   -- laws.eqSchema
theorem ca29 : callable Try.prog 29 = true := by kernel_rfl   -- laws.szValueS
theorem ca30 : callable Try.prog 30 = true := by kernel_rfl   -- spec.RowOk
theorem ca31 : callable Try.prog 31 = true := by kernel_rfl   -- laws.toValueS
theorem ca32 : callable Try.prog 32 = true := by kernel_rfl   -- impl.RowOk
theorem ca33 : callable Try.prog 33 = true := by kernel_rfl   -- laws.eqValueS
theorem ca34 : callable Try.prog 34 = true := by kernel_rfl   -- spec.CanRead
theorem ca35 : callable Try.prog 35 = true := by kernel_rfl   -- impl.CanRead
theorem ca36 : callable Try.prog 36 = true := by kernel_rfl   -- spec.Matches
theorem ca37 : callable Try.prog 37 = true := by kernel_rfl   -- impl.Matches
theorem ca38 : callable Try.prog 38 = true := by kernel_rfl   -- laws.eqIntS
theorem ca39 : callable Try.prog 39 = true := by kernel_rfl   -- laws.markSchema
theorem ca40 : callable Try.prog 40 = true := by kernel_rfl   -- laws.markIntS
theorem ca41 : callable Try.prog 41 = true := by kernel_rfl   -- laws.heldIntS
theorem ca42 : callable Try.prog 42 = true := by kernel_rfl   -- laws.szSchemaS
theorem ca43 : callable Try.prog 43 = true := by kernel_rfl   -- spec.Fits
theorem ca44 : callable Try.prog 44 = true := by kernel_rfl   -- laws.toSchemaS
theorem ca45 : callable Try.prog 45 = true := by kernel_rfl   -- impl.Fits
theorem ca46 : callable Try.prog 46 = true := by kernel_rfl   -- laws.eqSchemaS
theorem ca47 : callable Try.prog 47 = true := by kernel_rfl   -- spec.WriteRow
theorem ca48 : callable Try.prog 48 = true := by kernel_rfl   -- impl.WriteRow
theorem ca49 : callable Try.prog 49 = true := by kernel_rfl   -- laws.eqByteS
theorem ca50 : callable Try.prog 50 = true := by kernel_rfl   -- laws.markValueS
theorem ca51 : callable Try.prog 51 = true := by kernel_rfl   -- laws.markByteS
theorem ca52 : callable Try.prog 52 = true := by kernel_rfl   -- laws.heldByteS
theorem ca53 : callable Try.prog 53 = true := by kernel_rfl   -- spec.Resolve
theorem ca54 : callable Try.prog 54 = true := by kernel_rfl   -- impl.Resolve
theorem ca55 : callable Try.prog 55 = true := by kernel_rfl   -- laws.heldValueS
theorem ca56 : callable Try.prog 56 = true := by kernel_rfl   -- spec.ReadRow
theorem ca57 : callable Try.prog 57 = true := by kernel_rfl   -- laws.toByteS
theorem ca58 : callable Try.prog 58 = true := by kernel_rfl   -- impl.ReadRow
theorem ca59 : callable Try.prog 59 = true := by kernel_rfl   -- laws.szRegistry
theorem ca60 : callable Try.prog 60 = true := by kernel_rfl   -- spec.RegistryOk
theorem ca61 : callable Try.prog 61 = true := by kernel_rfl   -- laws.toRegistry
theorem ca62 : callable Try.prog 62 = true := by kernel_rfl   -- impl.RegistryOk
theorem ca63 : callable Try.prog 63 = true := by kernel_rfl   -- laws.eqRegistry
theorem ca64 : callable Try.prog 64 = true := by kernel_rfl   -- laws.szItemS
theorem ca65 : callable Try.prog 65 = true := by kernel_rfl   -- spec.l13Same
theorem ca66 : callable Try.prog 66 = true := by kernel_rfl   -- spec.l13Item
theorem ca67 : callable Try.prog 67 = true := by kernel_rfl   -- spec.l1In
theorem ca68 : callable Try.prog 68 = true := by kernel_rfl   -- laws.toItemS
theorem ca69 : callable Try.prog 69 = true := by kernel_rfl   -- impl.isZero
theorem ca70 : callable Try.prog 70 = true := by kernel_rfl   -- impl.within
theorem ca71 : callable Try.prog 71 = true := by kernel_rfl   -- impl.itemOk
theorem ca72 : callable Try.prog 72 = true := by kernel_rfl   -- laws.eqItemS
theorem ca73 : callable Try.prog 73 = true := by kernel_rfl   -- laws.szStringS
theorem ca74 : callable Try.prog 74 = true := by kernel_rfl   -- laws.toStringS
theorem ca75 : callable Try.prog 75 = true := by kernel_rfl   -- laws.eqStringS
theorem ca76 : callable Try.prog 76 = true := by kernel_rfl   -- laws.szFieldS
theorem ca77 : callable Try.prog 77 = true := by kernel_rfl   -- spec.NameOk
theorem ca78 : callable Try.prog 78 = true := by kernel_rfl   -- laws.toFieldS
theorem ca79 : callable Try.prog 79 = true := by kernel_rfl   -- impl.NameOk
theorem ca80 : callable Try.prog 80 = true := by kernel_rfl   -- impl.fieldOk
theorem ca81 : callable Try.prog 81 = true := by kernel_rfl   -- laws.eqFieldS
theorem ca82 : callable Try.prog 82 = true := by kernel_rfl   -- impl.matches
theorem ca83 : callable Try.prog 83 = true := by kernel_rfl   -- spec.l12Find
theorem ca84 : callable Try.prog 84 = true := by kernel_rfl   -- laws.markFieldS
theorem ca85 : callable Try.prog 85 = true := by kernel_rfl   -- spec.l12Mode
theorem ca86 : callable Try.prog 86 = true := by kernel_rfl   -- impl.modeOk
theorem ca87 : callable Try.prog 87 = true := by kernel_rfl   -- spec.PutInt
theorem ca88 : callable Try.prog 88 = true := by kernel_rfl   -- spec.l13Write
theorem ca89 : callable Try.prog 89 = true := by kernel_rfl   -- impl.offsetOk
theorem ca90 : callable Try.prog 90 = true := by kernel_rfl   -- impl.PutInt
theorem ca91 : callable Try.prog 91 = true := by kernel_rfl   -- impl.putItem
theorem ca92 : callable Try.prog 92 = true := by kernel_rfl   -- laws.markText
theorem ca93 : callable Try.prog 93 = true := by kernel_rfl   -- laws.markItemS
theorem ca94 : callable Try.prog 94 = true := by kernel_rfl   -- spec.l13Copy
theorem ca95 : callable Try.prog 95 = true := by kernel_rfl   -- impl.copyValue
theorem ca96 : callable Try.prog 96 = true := by kernel_rfl   -- laws.heldItemS
theorem ca97 : callable Try.prog 97 = true := by kernel_rfl   -- spec.l13Number
theorem ca98 : callable Try.prog 98 = true := by kernel_rfl   -- spec.l13Get
theorem ca99 : callable Try.prog 99 = true := by kernel_rfl   -- bytes.HasPrefix
theorem ca100 : callable Try.prog 100 = true := by kernel_rfl   -- (*impl.rowReader).flag
theorem ca101 : callable Try.prog 101 = true := by kernel_rfl   -- (*impl.rowReader).item
theorem ca102 : callable Try.prog 102 = true := by kernel_rfl   -- (*impl.rowReader).int
theorem ca103 : callable Try.prog 103 = true := by kernel_rfl   -- (*impl.rowReader).fail
theorem ca104 : callable Try.prog 104 = true := by kernel_rfl   -- laws.szSubjectS
theorem ca105 : callable Try.prog 105 = true := by kernel_rfl   -- spec.l12Same
theorem ca106 : callable Try.prog 106 = true := by kernel_rfl   -- spec.l5Has
theorem ca107 : callable Try.prog 107 = true := by kernel_rfl   -- laws.toSubjectS
theorem ca108 : callable Try.prog 108 = true := by kernel_rfl   -- impl.sameSchema
theorem ca109 : callable Try.prog 109 = true := by kernel_rfl   -- (impl.Registry).versions
theorem ca110 : callable Try.prog 110 = true := by kernel_rfl   -- laws.eqSubjectS
theorem ca111 : callable Try.prog 111 = true := by kernel_rfl   -- laws.szItem
theorem ca112 : callable Try.prog 112 = true := by kernel_rfl   -- laws.toItem
theorem ca113 : callable Try.prog 113 = true := by kernel_rfl   -- impl.textOk
theorem ca114 : callable Try.prog 114 = true := by kernel_rfl   -- laws.eqItem
theorem ca115 : callable Try.prog 115 = true := by kernel_rfl   -- impl.letter
theorem ca116 : callable Try.prog 116 = true := by kernel_rfl   -- impl.digit
theorem ca117 : callable Try.prog 117 = true := by kernel_rfl   -- laws.markStringS
theorem ca118 : callable Try.prog 118 = true := by kernel_rfl   -- slices.Contains[[]int,int]
theorem ca119 : callable Try.prog 119 = true := by kernel_rfl   -- spec.l2Text
theorem ca120 : callable Try.prog 120 = true := by kernel_rfl   -- impl.putText
theorem ca121 : callable Try.prog 121 = true := by kernel_rfl   -- slices.Clone[[]impl.Item,impl.Item]
theorem ca122 : callable Try.prog 122 = true := by kernel_rfl   -- spec.GetInt
theorem ca123 : callable Try.prog 123 = true := by kernel_rfl   -- bytes.Equal
theorem ca124 : callable Try.prog 124 = true := by kernel_rfl   -- impl.GetInt
theorem ca125 : callable Try.prog 125 = true := by kernel_rfl   -- laws.szSubject
theorem ca126 : callable Try.prog 126 = true := by kernel_rfl   -- spec.l12Text
theorem ca127 : callable Try.prog 127 = true := by kernel_rfl   -- laws.toSubject
theorem ca128 : callable Try.prog 128 = true := by kernel_rfl   -- slices.EqualFunc[[]impl.Field,[]impl.Field,impl.Field,impl.Field]
theorem ca129 : callable Try.prog 129 = true := by kernel_rfl   -- impl.sameSchema$1
theorem ca130 : callable Try.prog 130 = true := by kernel_rfl   -- slices.Equal[[]string,string]
theorem ca131 : callable Try.prog 131 = true := by kernel_rfl   -- impl.sameValue
theorem ca132 : callable Try.prog 132 = true := by kernel_rfl   -- laws.eqSubject
theorem ca133 : callable Try.prog 133 = true := by kernel_rfl   -- slices.Index[[]int,int]
theorem ca134 : callable Try.prog 134 = true := by kernel_rfl   -- laws.szIntS
theorem ca135 : callable Try.prog 135 = true := by kernel_rfl   -- spec.l12Line
theorem ca136 : callable Try.prog 136 = true := by kernel_rfl   -- laws.toIntS
theorem ca137 : callable Try.prog 137 = true := by kernel_rfl   -- slices.Equal[[]impl.Item,impl.Item]
theorem ca138 : callable Try.prog 138 = true := by kernel_rfl   -- spec.l12Kinds
theorem ca139 : callable Try.prog 139 = true := by kernel_rfl   -- spec.ShowValue
theorem ca140 : callable Try.prog 140 = true := by kernel_rfl   -- spec.l13Show
theorem ca141 : callable Try.prog 141 = true := by kernel_rfl   -- spec.l1Itoa
attribute [simp] ti2 ti3 ti4 ti5 ti9 ti12 ti13 ti21 ti142 ti22 ti23 ti24 ti101 ti27 ti28 ti29 ti33 ti34 ti35 ti38 ti39 ti43 ti44 ti45 ti48 ti49 ti50 ti54 ti57 ti62 ti67 ti70 ti74 ti155 ti87 ti88 ti89 ti136 ti92 ti93 ti94 ti100 ti111 ti114 ti129 ti127 ti128 ti134 ti135 ti146 ti148 ti150 ti171 ti175 eqi142 eqi101 mi111 mi114 mi146 ca3 ca4 ca5 ca6 ca7 ca8 ca9 ca10 ca11 ca12 ca13 ca14 ca15 ca16 ca17 ca18 ca19 ca20 ca21 ca22 ca23 ca24 ca25 ca26 ca27 ca28 ca29 ca30 ca31 ca32 ca33 ca34 ca35 ca36 ca37 ca38 ca39 ca40 ca41 ca42 ca43 ca44 ca45 ca46 ca47 ca48 ca49 ca50 ca51 ca52 ca53 ca54 ca55 ca56 ca57 ca58 ca59 ca60 ca61 ca62 ca63 ca64 ca65 ca66 ca67 ca68 ca69 ca70 ca71 ca72 ca73 ca74 ca75 ca76 ca77 ca78 ca79 ca80 ca81 ca82 ca83 ca84 ca85 ca86 ca87 ca88 ca89 ca90 ca91 ca92 ca93 ca94 ca95 ca96 ca97 ca98 ca99 ca100 ca101 ca102 ca103 ca104 ca105 ca106 ca107 ca108 ca109 ca110 ca111 ca112 ca113 ca114 ca115 ca116 ca117 ca118 ca119 ca120 ca121 ca122 ca123 ca124 ca125 ca126 ca127 ca128 ca129 ca130 ca131 ca132 ca133 ca134 ca135 ca136 ca137 ca138 ca139 ca140 ca141

def tau : TypeId → Option Ty := fun t => match t with
  | 2 => some (Ty.int .i64)
  | 3 => some (Ty.int .i64)
  | 4 => some Ty.bool
  | 5 => some Ty.byte
  | 9 => some Ty.str
  | 12 => some (Ty.int .u64)
  | 13 => some (Ty.pair Ty.str (Ty.int .u64))
  | 21 => some (Ty.int .i32)
  | 142 => some T142
  | 22 => some (Ty.sl T142)
  | 23 => some (Ty.pair (Ty.int .i64) (Ty.pair (Ty.int .i64) (Ty.pair Ty.str (Ty.pair Ty.bool (Ty.sl T142)))))
  | 24 => some T24
  | 101 => some T101
  | 27 => some (Ty.sl T101)
  | 28 => some (Ty.pair (Ty.int .i64) (Ty.pair (Ty.int .i64) (Ty.pair Ty.str (Ty.pair Ty.bool (Ty.sl T101)))))
  | 29 => some T29
  | 33 => some (Ty.sl Ty.str)
  | 34 => some (Ty.pair Ty.str (Ty.pair (Ty.int .i64) (Ty.pair Ty.bool (Ty.pair Ty.bool (Ty.pair (Ty.sl Ty.str) (Ty.pair Ty.bool T24))))))
  | 35 => some T35
  | 38 => some (Ty.pair Ty.str (Ty.pair (Ty.int .i64) (Ty.pair Ty.bool (Ty.pair Ty.bool (Ty.pair (Ty.sl Ty.str) (Ty.pair Ty.bool T29))))))
  | 39 => some T39
  | 43 => some (Ty.sl T35)
  | 44 => some (Ty.pair Ty.str (Ty.sl T35))
  | 45 => some T45
  | 48 => some (Ty.sl T39)
  | 49 => some (Ty.pair Ty.str (Ty.sl T39))
  | 50 => some T50
  | 54 => some (Ty.sl T24)
  | 57 => some (Ty.sl T29)
  | 62 => some (Ty.sl (Ty.int .i64))
  | 67 => some (Ty.sl T45)
  | 70 => some (Ty.sl T50)
  | 74 => some (Ty.sl Ty.byte)
  | 155 => some T155
  | 87 => some (Ty.sl T155)
  | 88 => some (Ty.pair (Ty.sl T45) (Ty.sl T155))
  | 89 => some T89
  | 136 => some T136
  | 92 => some (Ty.sl T136)
  | 93 => some (Ty.pair (Ty.sl T50) (Ty.sl T136))
  | 94 => some T94
  | 100 => some (Ty.pair (Ty.int .i64) Ty.str)
  | 129 => some T129
  | 128 => some (Ty.pair (Ty.sl Ty.byte) (Ty.pair (Ty.int .i64) (Ty.int .i64)))
  | 134 => some (Ty.sl Ty.bool)
  | 135 => some (Ty.pair Ty.str (Ty.pair (Ty.int .i64) (Ty.sl (Ty.int .i64))))
  | 148 => some (Ty.int .u64)
  | 150 => some (Ty.int .u64)
  | 171 => some (Ty.int .u32)
  | _ => none
theorem tau2 : tau 2 = some (Ty.int .i64) := rfl
theorem tau3 : tau 3 = some (Ty.int .i64) := rfl
theorem tau4 : tau 4 = some Ty.bool := rfl
theorem tau5 : tau 5 = some Ty.byte := rfl
theorem tau9 : tau 9 = some Ty.str := rfl
theorem tau12 : tau 12 = some (Ty.int .u64) := rfl
theorem tau13 : tau 13 = some (Ty.pair Ty.str (Ty.int .u64)) := rfl
theorem tau21 : tau 21 = some (Ty.int .i32) := rfl
theorem tau142 : tau 142 = some T142 := rfl
theorem tau22 : tau 22 = some (Ty.sl T142) := rfl
theorem tau23 : tau 23 = some (Ty.pair (Ty.int .i64) (Ty.pair (Ty.int .i64) (Ty.pair Ty.str (Ty.pair Ty.bool (Ty.sl T142))))) := rfl
theorem tau24 : tau 24 = some T24 := rfl
theorem tau101 : tau 101 = some T101 := rfl
theorem tau27 : tau 27 = some (Ty.sl T101) := rfl
theorem tau28 : tau 28 = some (Ty.pair (Ty.int .i64) (Ty.pair (Ty.int .i64) (Ty.pair Ty.str (Ty.pair Ty.bool (Ty.sl T101))))) := rfl
theorem tau29 : tau 29 = some T29 := rfl
theorem tau33 : tau 33 = some (Ty.sl Ty.str) := rfl
theorem tau34 : tau 34 = some (Ty.pair Ty.str (Ty.pair (Ty.int .i64) (Ty.pair Ty.bool (Ty.pair Ty.bool (Ty.pair (Ty.sl Ty.str) (Ty.pair Ty.bool T24)))))) := rfl
theorem tau35 : tau 35 = some T35 := rfl
theorem tau38 : tau 38 = some (Ty.pair Ty.str (Ty.pair (Ty.int .i64) (Ty.pair Ty.bool (Ty.pair Ty.bool (Ty.pair (Ty.sl Ty.str) (Ty.pair Ty.bool T29)))))) := rfl
theorem tau39 : tau 39 = some T39 := rfl
theorem tau43 : tau 43 = some (Ty.sl T35) := rfl
theorem tau44 : tau 44 = some (Ty.pair Ty.str (Ty.sl T35)) := rfl
theorem tau45 : tau 45 = some T45 := rfl
theorem tau48 : tau 48 = some (Ty.sl T39) := rfl
theorem tau49 : tau 49 = some (Ty.pair Ty.str (Ty.sl T39)) := rfl
theorem tau50 : tau 50 = some T50 := rfl
theorem tau54 : tau 54 = some (Ty.sl T24) := rfl
theorem tau57 : tau 57 = some (Ty.sl T29) := rfl
theorem tau62 : tau 62 = some (Ty.sl (Ty.int .i64)) := rfl
theorem tau67 : tau 67 = some (Ty.sl T45) := rfl
theorem tau70 : tau 70 = some (Ty.sl T50) := rfl
theorem tau74 : tau 74 = some (Ty.sl Ty.byte) := rfl
theorem tau155 : tau 155 = some T155 := rfl
theorem tau87 : tau 87 = some (Ty.sl T155) := rfl
theorem tau88 : tau 88 = some (Ty.pair (Ty.sl T45) (Ty.sl T155)) := rfl
theorem tau89 : tau 89 = some T89 := rfl
theorem tau136 : tau 136 = some T136 := rfl
theorem tau92 : tau 92 = some (Ty.sl T136) := rfl
theorem tau93 : tau 93 = some (Ty.pair (Ty.sl T50) (Ty.sl T136)) := rfl
theorem tau94 : tau 94 = some T94 := rfl
theorem tau100 : tau 100 = some (Ty.pair (Ty.int .i64) Ty.str) := rfl
theorem tau129 : tau 129 = some T129 := rfl
theorem tau128 : tau 128 = some (Ty.pair (Ty.sl Ty.byte) (Ty.pair (Ty.int .i64) (Ty.int .i64))) := rfl
theorem tau134 : tau 134 = some (Ty.sl Ty.bool) := rfl
theorem tau135 : tau 135 = some (Ty.pair Ty.str (Ty.pair (Ty.int .i64) (Ty.sl (Ty.int .i64)))) := rfl
theorem tau148 : tau 148 = some (Ty.int .u64) := rfl
theorem tau150 : tau 150 = some (Ty.int .u64) := rfl
theorem tau171 : tau 171 = some (Ty.int .u32) := rfl
attribute [simp] tau2 tau3 tau4 tau5 tau9 tau12 tau13 tau21 tau142 tau22 tau23 tau24 tau101 tau27 tau28 tau29 tau33 tau34 tau35 tau38 tau39 tau43 tau44 tau45 tau48 tau49 tau50 tau54 tau57 tau62 tau67 tau70 tau74 tau155 tau87 tau88 tau89 tau136 tau92 tau93 tau94 tau100 tau129 tau128 tau134 tau135 tau148 tau150 tau171
theorem mixed : Try.prog.follows .mixedOrders = true := by kernel_rfl
end Go.Proofs.Ytjkdbippldbcmaa
