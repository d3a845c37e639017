/- The types and callees of this seat as facts: written by gen.py. -/
import Derived.Test.YtjiejfpbioljeaaSy20
import Derived.Test.YtjiejfpbioljeaaProg
namespace Go.Proofs.Ytjiejfpbioljeaa
open Go Go.RowKit
set_option linter.all false
set_option maxRecDepth 100000

abbrev T73 : Ty := (Ty.pair Ty.str (Ty.pair Ty.bool (Ty.sl Ty.str)))   -- g00035/laws.Source
abbrev T74 : Ty := (Ty.pair Ty.str (Ty.pair Ty.bool (Ty.sl Ty.str)))   -- g00035/impl.Source
abbrev T83 : Ty := (Ty.pair (Ty.int .i64) (Ty.pair (Ty.int .i64) Ty.str))   -- g00035/laws.Step
abbrev T86 : Ty := (Ty.pair (Ty.int .i64) (Ty.pair (Ty.int .i64) Ty.str))   -- g00035/impl.Step
abbrev T124 : Ty := (Ty.pair (Ty.int .i64) (Ty.pair (Ty.sl T83) Ty.str))   -- g00035/laws.Get
abbrev T46 : Ty := (Ty.pair Ty.str (Ty.pair Ty.str (Ty.pair (Ty.int .i64) (Ty.pair Ty.str (Ty.pair Ty.str (Ty.pair (Ty.sl T83) (Ty.pair (Ty.sl Ty.str) (Ty.pair (Ty.int .i64) (Ty.pair (Ty.int .i64) (Ty.pair (Ty.int .i64) (Ty.sl T124)))))))))))   -- g00035/laws.Query
abbrev T94 : Ty := (Ty.pair (Ty.int .i64) (Ty.pair (Ty.sl T86) Ty.str))   -- g00035/impl.Get
abbrev T51 : Ty := (Ty.pair Ty.str (Ty.pair Ty.str (Ty.pair (Ty.int .i64) (Ty.pair Ty.str (Ty.pair Ty.str (Ty.pair (Ty.sl T86) (Ty.pair (Ty.sl Ty.str) (Ty.pair (Ty.int .i64) (Ty.pair (Ty.int .i64) (Ty.pair (Ty.int .i64) (Ty.sl T94)))))))))))   -- g00035/impl.Query
abbrev T129 : Ty := (Ty.pair Ty.str (Ty.int .i64))   -- g00035/impl.Topic
abbrev T110 : Ty := (Ty.pair Ty.str (Ty.int .i64))   -- g00035/impl.Slot
abbrev T106 : Ty := (Ty.pair Ty.str (Ty.pair Ty.str (Ty.pair (Ty.sl Ty.str) (Ty.pair (Ty.int .i64) (Ty.pair (Ty.int .i64) (Ty.pair (Ty.sl T110) (Ty.sl T110)))))))   -- g00035/impl.Member
abbrev T58 : Ty := (Ty.pair (Ty.int .i64) (Ty.pair (Ty.int .i64) (Ty.pair (Ty.int .i64) (Ty.pair (Ty.int .i64) (Ty.pair (Ty.sl T129) (Ty.sl T106))))))   -- g00035/impl.Group
abbrev T134 : Ty := (Ty.pair Ty.str (Ty.int .i64))   -- g00035/laws.Topic
abbrev T149 : Ty := (Ty.pair Ty.str (Ty.int .i64))   -- g00035/laws.Slot
abbrev T138 : Ty := (Ty.pair Ty.str (Ty.pair Ty.str (Ty.pair (Ty.sl Ty.str) (Ty.pair (Ty.int .i64) (Ty.pair (Ty.int .i64) (Ty.pair (Ty.sl T149) (Ty.sl T149)))))))   -- g00035/laws.Member
abbrev T66 : Ty := (Ty.pair (Ty.int .i64) (Ty.pair (Ty.int .i64) (Ty.pair (Ty.int .i64) (Ty.pair (Ty.int .i64) (Ty.pair (Ty.sl T134) (Ty.sl T138))))))   -- g00035/laws.Group

theorem ti2 : tinfo Try.prog 2 = some ⟨false, 1, 8, some [.int .i64 0], .int .i64, true⟩ := by kernel_rfl
theorem ti3 : tinfo Try.prog 3 = some ⟨false, 1, 8, some [.int .i64 0], .int .i64, true⟩ := by kernel_rfl
theorem ti4 : tinfo Try.prog 4 = some ⟨false, 1, 1, some [.bool false], .bool, true⟩ := by kernel_rfl
theorem ti5 : tinfo Try.prog 5 = some ⟨false, 1, 1, some [.int .u8 0], .int .u8, true⟩ := by kernel_rfl
theorem ti9 : tinfo Try.prog 9 = some ⟨false, 1, 16, some [.str []], .str, true⟩ := by kernel_rfl
theorem ti12 : tinfo Try.prog 12 = some ⟨false, 1, 8, some [.int .u64 0], .int .u64, true⟩ := by kernel_rfl
theorem ti13 : tinfo Try.prog 13 = some ⟨true, 2, 24, some [.str [], .int .u64 0], .st [(0, 1, 9), (1, 1, 12)], true⟩ := by kernel_rfl
theorem ti21 : tinfo Try.prog 21 = some ⟨false, 1, 4, some [.int .i32 0], .int .i32, true⟩ := by kernel_rfl
theorem ti30 : tinfo Try.prog 30 = some ⟨false, 1, 24, some [.nilsl], .sl 9, true⟩ := by kernel_rfl
theorem ti73 : tinfo Try.prog 73 = some ⟨true, 3, 48, some [.str [], .bool false, .nilsl], .st [(0, 1, 9), (1, 1, 4), (2, 1, 30)], true⟩ := by kernel_rfl
theorem ti22 : tinfo Try.prog 22 = some ⟨false, 1, 24, some [.nilsl], .sl 73, true⟩ := by kernel_rfl
theorem ti74 : tinfo Try.prog 74 = some ⟨true, 3, 48, some [.str [], .bool false, .nilsl], .st [(0, 1, 9), (1, 1, 4), (2, 1, 30)], true⟩ := by kernel_rfl
theorem ti25 : tinfo Try.prog 25 = some ⟨false, 1, 24, some [.nilsl], .sl 74, true⟩ := by kernel_rfl
theorem ti83 : tinfo Try.prog 83 = some ⟨true, 3, 32, some [.int .i64 0, .int .i64 0, .str []], .st [(0, 1, 3), (1, 1, 3), (2, 1, 9)], true⟩ := by kernel_rfl
theorem ti29 : tinfo Try.prog 29 = some ⟨false, 1, 24, some [.nilsl], .sl 83, true⟩ := by kernel_rfl
theorem ti31 : tinfo Try.prog 31 = some ⟨false, 1, 24, some [.nilsl], .sl 3, true⟩ := by kernel_rfl
theorem ti86 : tinfo Try.prog 86 = some ⟨true, 3, 32, some [.int .i64 0, .int .i64 0, .str []], .st [(0, 1, 3), (1, 1, 3), (2, 1, 9)], true⟩ := by kernel_rfl
theorem ti36 : tinfo Try.prog 36 = some ⟨false, 1, 24, some [.nilsl], .sl 86, true⟩ := by kernel_rfl
theorem ti124 : tinfo Try.prog 124 = some ⟨true, 3, 48, some [.int .i64 0, .nilsl, .str []], .st [(0, 1, 3), (1, 1, 29), (2, 1, 9)], true⟩ := by kernel_rfl
theorem ti44 : tinfo Try.prog 44 = some ⟨false, 1, 24, some [.nilsl], .sl 124, true⟩ := by kernel_rfl
theorem ti45 : tinfo Try.prog 45 = some ⟨true, 11, 168, some [.str [], .str [], .int .i64 0, .str [], .str [], .nilsl, .nilsl, .int .i64 0, .int .i64 0, .int .i64 0, .nilsl], .st [(0, 1, 9), (1, 1, 9), (2, 1, 3), (3, 1, 9), (4, 1, 9), (5, 1, 29), (6, 1, 30), (7, 1, 3), (8, 1, 3), (9, 1, 3), (10, 1, 44)], true⟩ := by kernel_rfl
theorem ti46 : tinfo Try.prog 46 = some ⟨true, 11, 168, some [.str [], .str [], .int .i64 0, .str [], .str [], .nilsl, .nilsl, .int .i64 0, .int .i64 0, .int .i64 0, .nilsl], .st [(0, 1, 9), (1, 1, 9), (2, 1, 3), (3, 1, 9), (4, 1, 9), (5, 1, 29), (6, 1, 30), (7, 1, 3), (8, 1, 3), (9, 1, 3), (10, 1, 44)], true⟩ := by kernel_rfl
theorem ti94 : tinfo Try.prog 94 = some ⟨true, 3, 48, some [.int .i64 0, .nilsl, .str []], .st [(0, 1, 3), (1, 1, 36), (2, 1, 9)], true⟩ := by kernel_rfl
theorem ti49 : tinfo Try.prog 49 = some ⟨false, 1, 24, some [.nilsl], .sl 94, true⟩ := by kernel_rfl
theorem ti50 : tinfo Try.prog 50 = some ⟨true, 11, 168, some [.str [], .str [], .int .i64 0, .str [], .str [], .nilsl, .nilsl, .int .i64 0, .int .i64 0, .int .i64 0, .nilsl], .st [(0, 1, 9), (1, 1, 9), (2, 1, 3), (3, 1, 9), (4, 1, 9), (5, 1, 36), (6, 1, 30), (7, 1, 3), (8, 1, 3), (9, 1, 3), (10, 1, 49)], true⟩ := by kernel_rfl
theorem ti51 : tinfo Try.prog 51 = some ⟨true, 11, 168, some [.str [], .str [], .int .i64 0, .str [], .str [], .nilsl, .nilsl, .int .i64 0, .int .i64 0, .int .i64 0, .nilsl], .st [(0, 1, 9), (1, 1, 9), (2, 1, 3), (3, 1, 9), (4, 1, 9), (5, 1, 36), (6, 1, 30), (7, 1, 3), (8, 1, 3), (9, 1, 3), (10, 1, 49)], true⟩ := by kernel_rfl
theorem ti129 : tinfo Try.prog 129 = some ⟨true, 2, 24, some [.str [], .int .i64 0], .st [(0, 1, 9), (1, 1, 3)], true⟩ := by kernel_rfl
theorem ti55 : tinfo Try.prog 55 = some ⟨false, 1, 24, some [.nilsl], .sl 129, true⟩ := by kernel_rfl
theorem ti110 : tinfo Try.prog 110 = some ⟨true, 2, 24, some [.str [], .int .i64 0], .st [(0, 1, 9), (1, 1, 3)], true⟩ := by kernel_rfl
theorem ti104 : tinfo Try.prog 104 = some ⟨false, 1, 24, some [.nilsl], .sl 110, true⟩ := by kernel_rfl
theorem ti106 : tinfo Try.prog 106 = some ⟨true, 7, 120, some [.str [], .str [], .nilsl, .int .i64 0, .int .i64 0, .nilsl, .nilsl], .st [(0, 1, 9), (1, 1, 9), (2, 1, 30), (3, 1, 3), (4, 1, 3), (5, 1, 104), (6, 1, 104)], true⟩ := by kernel_rfl
theorem ti56 : tinfo Try.prog 56 = some ⟨false, 1, 24, some [.nilsl], .sl 106, true⟩ := by kernel_rfl
theorem ti57 : tinfo Try.prog 57 = some ⟨true, 6, 80, some [.int .i64 0, .int .i64 0, .int .i64 0, .int .i64 0, .nilsl, .nilsl], .st [(0, 1, 3), (1, 1, 3), (2, 1, 3), (3, 1, 3), (4, 1, 55), (5, 1, 56)], true⟩ := by kernel_rfl
theorem ti58 : tinfo Try.prog 58 = some ⟨true, 6, 80, some [.int .i64 0, .int .i64 0, .int .i64 0, .int .i64 0, .nilsl, .nilsl], .st [(0, 1, 3), (1, 1, 3), (2, 1, 3), (3, 1, 3), (4, 1, 55), (5, 1, 56)], true⟩ := by kernel_rfl
theorem ti134 : tinfo Try.prog 134 = some ⟨true, 2, 24, some [.str [], .int .i64 0], .st [(0, 1, 9), (1, 1, 3)], true⟩ := by kernel_rfl
theorem ti63 : tinfo Try.prog 63 = some ⟨false, 1, 24, some [.nilsl], .sl 134, true⟩ := by kernel_rfl
theorem ti149 : tinfo Try.prog 149 = some ⟨true, 2, 24, some [.str [], .int .i64 0], .st [(0, 1, 9), (1, 1, 3)], true⟩ := by kernel_rfl
theorem ti136 : tinfo Try.prog 136 = some ⟨false, 1, 24, some [.nilsl], .sl 149, true⟩ := by kernel_rfl
theorem ti138 : tinfo Try.prog 138 = some ⟨true, 7, 120, some [.str [], .str [], .nilsl, .int .i64 0, .int .i64 0, .nilsl, .nilsl], .st [(0, 1, 9), (1, 1, 9), (2, 1, 30), (3, 1, 3), (4, 1, 3), (5, 1, 136), (6, 1, 136)], true⟩ := by kernel_rfl
theorem ti64 : tinfo Try.prog 64 = some ⟨false, 1, 24, some [.nilsl], .sl 138, true⟩ := by kernel_rfl
theorem ti65 : tinfo Try.prog 65 = some ⟨true, 6, 80, some [.int .i64 0, .int .i64 0, .int .i64 0, .int .i64 0, .nilsl, .nilsl], .st [(0, 1, 3), (1, 1, 3), (2, 1, 3), (3, 1, 3), (4, 1, 63), (5, 1, 64)], true⟩ := by kernel_rfl
theorem ti66 : tinfo Try.prog 66 = some ⟨true, 6, 80, some [.int .i64 0, .int .i64 0, .int .i64 0, .int .i64 0, .nilsl, .nilsl], .st [(0, 1, 3), (1, 1, 3), (2, 1, 3), (3, 1, 3), (4, 1, 63), (5, 1, 64)], true⟩ := by kernel_rfl
theorem ti72 : tinfo Try.prog 72 = some ⟨true, 3, 48, some [.str [], .bool false, .nilsl], .st [(0, 1, 9), (1, 1, 4), (2, 1, 30)], true⟩ := by kernel_rfl
theorem ti82 : tinfo Try.prog 82 = some ⟨true, 3, 32, some [.int .i64 0, .int .i64 0, .str []], .st [(0, 1, 3), (1, 1, 3), (2, 1, 9)], true⟩ := by kernel_rfl
theorem ti93 : tinfo Try.prog 93 = some ⟨true, 3, 48, some [.int .i64 0, .nilsl, .str []], .st [(0, 1, 3), (1, 1, 36), (2, 1, 9)], true⟩ := by kernel_rfl
theorem ti105 : tinfo Try.prog 105 = some ⟨true, 7, 120, some [.str [], .str [], .nilsl, .int .i64 0, .int .i64 0, .nilsl, .nilsl], .st [(0, 1, 9), (1, 1, 9), (2, 1, 30), (3, 1, 3), (4, 1, 3), (5, 1, 104), (6, 1, 104)], true⟩ := by kernel_rfl
theorem ti109 : tinfo Try.prog 109 = some ⟨true, 2, 24, some [.str [], .int .i64 0], .st [(0, 1, 9), (1, 1, 3)], true⟩ := by kernel_rfl
theorem ti114 : tinfo Try.prog 114 = some ⟨false, 1, 24, some [.nilsl], .sl 104, true⟩ := by kernel_rfl
theorem ti115 : tinfo Try.prog 115 = some ⟨false, 1, 8, some [.any], .map 9 4, true⟩ := by kernel_rfl
theorem ti123 : tinfo Try.prog 123 = some ⟨true, 3, 48, some [.int .i64 0, .nilsl, .str []], .st [(0, 1, 3), (1, 1, 29), (2, 1, 9)], true⟩ := by kernel_rfl
theorem ti128 : tinfo Try.prog 128 = some ⟨true, 2, 24, some [.str [], .int .i64 0], .st [(0, 1, 9), (1, 1, 3)], true⟩ := by kernel_rfl
theorem ti137 : tinfo Try.prog 137 = some ⟨true, 7, 120, some [.str [], .str [], .nilsl, .int .i64 0, .int .i64 0, .nilsl, .nilsl], .st [(0, 1, 9), (1, 1, 9), (2, 1, 30), (3, 1, 3), (4, 1, 3), (5, 1, 136), (6, 1, 136)], true⟩ := by kernel_rfl
theorem ti143 : tinfo Try.prog 143 = some ⟨false, 1, 8, some [.any], .map 110 4, true⟩ := by kernel_rfl
theorem ti144 : tinfo Try.prog 144 = some ⟨false, 1, 24, some [.nilsl], .sl 5, true⟩ := by kernel_rfl
theorem ti158 : tinfo Try.prog 158 = some ⟨false, 1, 4, some [.int .u32 0], .int .u32, true⟩ := by kernel_rfl
theorem ti162 : tinfo Try.prog 162 = some ⟨false, 1, 8, some [.nilp], .ptr 5, true⟩ := by kernel_rfl
theorem mi115 : mapInfo Try.prog 115 = some (9, 4, .str, .bool false) := by kernel_rfl
theorem ca3 : callable Try.prog 3 = true := by kernel_rfl   -- laws.FnExactSourcesOk
theorem ca4 : callable Try.prog 4 = true := by kernel_rfl   -- laws.FnExactReckon
theorem ca5 : callable Try.prog 5 = true := by kernel_rfl   -- laws.FnExactQueryOk
theorem ca6 : callable Try.prog 6 = true := by kernel_rfl   -- laws.FnExactNewGroup
theorem ca7 : callable Try.prog 7 = true := by kernel_rfl   -- laws.FnExactGroupOk
theorem ca8 : callable Try.prog 8 = true := by kernel_rfl   -- laws.FnExactStill
theorem ca9 : callable Try.prog 9 = true := by kernel_rfl   -- laws.szSourceS
theorem ca10 : callable Try.prog 10 = true := by kernel_rfl   -- spec.SourcesOk
theorem ca11 : callable Try.prog 11 = true := by kernel_rfl   -- laws.toSourceS
theorem ca12 : callable Try.prog 12 = true := by kernel_rfl   -- impl.SourcesOk
theorem ca13 : callable Try.prog 13 = true := by kernel_rfl   -- laws.eqSourceS
theorem ca14 : callable Try.prog 14 = true := by kernel_rfl   -- laws.szStepS
theorem ca15 : callable Try.prog 15 = true := by kernel_rfl   -- laws.szStringS
theorem ca16 : callable Try.prog 16 = true := by kernel_rfl   -- spec.Reckon
theorem ca17 : callable Try.prog 17 = true := by kernel_rfl   -- laws.toStepS
theorem ca18 : callable Try.prog 18 = true := by kernel_rfl   -- laws.toStringS
theorem ca19 : callable Try.prog 19 = true := by kernel_rfl   -- laws.toIntS
theorem ca20 : callable Try.prog 20 = true := by kernel_rfl   -- impl.Reckon
theorem ca21 : callable Try.prog 21 = true := by kernel_rfl   -- laws.eqStepS
theorem ca22 : callable Try.prog 22 = true := by kernel_rfl   -- laws.eqStringS
theorem ca23 : callable Try.prog 23 = true := by kernel_rfl   -- laws.eqIntS
theorem ca24 : callable Try.prog 24 = true := by kernel_rfl   -- laws.szQuery
theorem ca25 : callable Try.prog 25 = true := by kernel_rfl   -- spec.QueryOk
theorem ca26 : callable Try.prog 26 = true := by kernel_rfl   -- laws.toQuery
theorem ca27 : callable Try.prog 27 = true := by kernel_rfl   -- impl.QueryOk
theorem ca28 : callable Try.prog 28 = true := by kernel_rfl   -- laws.eqQuery
theorem ca29 : callable Try.prog 29 = true := by kernel_rfl   -- spec.NewGroup
theorem ca30 : callable Try.prog 30 = true := by kernel_rfl   -- impl.NewGroup
theorem ca31 : callable Try.prog 31 = true := by kernel_rfl   -- laws.eqGroup
theorem ca32 : callable Try.prog 32 = true := by kernel_rfl   -- laws.markGroup
theorem ca33 : callable Try.prog 33 = true := by kernel_rfl   -- laws.heldGroup
theorem ca34 : callable Try.prog 34 = true := by kernel_rfl   -- laws.szGroup
theorem ca35 : callable Try.prog 35 = true := by kernel_rfl   -- spec.GroupOk
theorem ca36 : callable Try.prog 36 = true := by kernel_rfl   -- laws.toGroup
theorem ca37 : callable Try.prog 37 = true := by kernel_rfl   -- impl.GroupOk
theorem ca38 : callable Try.prog 38 = true := by kernel_rfl   -- spec.Still
theorem ca39 : callable Try.prog 39 = true := by kernel_rfl   -- impl.Still
theorem ca40 : callable Try.prog 40 = true := by kernel_rfl   -- laws.szSource
theorem ca41 : callable Try.prog 41 = true := by kernel_rfl   -- spec.NameOk
theorem ca42 : callable Try.prog 42 = true := by kernel_rfl   -- spec.l1In
theorem ca43 : callable Try.prog 43 = true := by kernel_rfl   -- spec.l14Different
theorem ca44 : callable Try.prog 44 = true := by kernel_rfl   -- laws.toSource
theorem ca45 : callable Try.prog 45 = true := by kernel_rfl   -- impl.NameOk
theorem ca46 : callable Try.prog 46 = true := by kernel_rfl   -- impl.colsOk
theorem ca47 : callable Try.prog 47 = true := by kernel_rfl   -- laws.eqSource
theorem ca48 : callable Try.prog 48 = true := by kernel_rfl   -- laws.szStep
theorem ca49 : callable Try.prog 49 = true := by kernel_rfl   -- spec.l14Steps
theorem ca50 : callable Try.prog 50 = true := by kernel_rfl   -- spec.l14Sees
theorem ca51 : callable Try.prog 51 = true := by kernel_rfl   -- spec.l14Bool
theorem ca52 : callable Try.prog 52 = true := by kernel_rfl   -- spec.l14Do
theorem ca53 : callable Try.prog 53 = true := by kernel_rfl   -- laws.toStep
theorem ca54 : callable Try.prog 54 = true := by kernel_rfl   -- impl.stepsOk
theorem ca55 : callable Try.prog 55 = true := by kernel_rfl   -- impl.within
theorem ca56 : callable Try.prog 56 = true := by kernel_rfl   -- slices.Index[[]string,string]
theorem ca57 : callable Try.prog 57 = true := by kernel_rfl   -- impl.truth
theorem ca58 : callable Try.prog 58 = true := by kernel_rfl   -- impl.reckon
theorem ca59 : callable Try.prog 59 = true := by kernel_rfl   -- laws.eqStep
theorem ca60 : callable Try.prog 60 = true := by kernel_rfl   -- laws.szGetS
theorem ca61 : callable Try.prog 61 = true := by kernel_rfl   -- laws.toGetS
theorem ca62 : callable Try.prog 62 = true := by kernel_rfl   -- impl.windowOk
theorem ca63 : callable Try.prog 63 = true := by kernel_rfl   -- laws.eqGetS
theorem ca64 : callable Try.prog 64 = true := by kernel_rfl   -- laws.eqTopicS
theorem ca65 : callable Try.prog 65 = true := by kernel_rfl   -- laws.eqMemberS
theorem ca66 : callable Try.prog 66 = true := by kernel_rfl   -- laws.markTopicS
theorem ca67 : callable Try.prog 67 = true := by kernel_rfl   -- laws.markMemberS
theorem ca68 : callable Try.prog 68 = true := by kernel_rfl   -- laws.heldTopicS
theorem ca69 : callable Try.prog 69 = true := by kernel_rfl   -- laws.heldMemberS
theorem ca70 : callable Try.prog 70 = true := by kernel_rfl   -- laws.szTopicS
theorem ca71 : callable Try.prog 71 = true := by kernel_rfl   -- laws.szMemberS
theorem ca72 : callable Try.prog 72 = true := by kernel_rfl   -- spec.TopicsOk
theorem ca73 : callable Try.prog 73 = true := by kernel_rfl   -- spec.l9Names
theorem ca74 : callable Try.prog 74 = true := by kernel_rfl   -- spec.l9Slots
theorem ca75 : callable Try.prog 75 = true := by kernel_rfl   -- spec.l9In
theorem ca76 : callable Try.prog 76 = true := by kernel_rfl   -- laws.toTopicS
theorem ca77 : callable Try.prog 77 = true := by kernel_rfl   -- laws.toMemberS
theorem ca78 : callable Try.prog 78 = true := by kernel_rfl   -- impl.timeOk
theorem ca79 : callable Try.prog 79 = true := by kernel_rfl   -- impl.offsetOk
theorem ca80 : callable Try.prog 80 = true := by kernel_rfl   -- impl.TopicsOk
theorem ca81 : callable Try.prog 81 = true := by kernel_rfl   -- impl.namesOk
theorem ca82 : callable Try.prog 82 = true := by kernel_rfl   -- impl.slotsOk
theorem ca83 : callable Try.prog 83 = true := by kernel_rfl   -- impl.apart
theorem ca84 : callable Try.prog 84 = true := by kernel_rfl   -- spec.l10SameSlots
theorem ca85 : callable Try.prog 85 = true := by kernel_rfl   -- slices.Equal[[]impl.Slot,impl.Slot]
theorem ca86 : callable Try.prog 86 = true := by kernel_rfl   -- spec.l14Has
theorem ca87 : callable Try.prog 87 = true := by kernel_rfl   -- impl.letter
theorem ca88 : callable Try.prog 88 = true := by kernel_rfl   -- impl.digit
theorem ca89 : callable Try.prog 89 = true := by kernel_rfl   -- slices.Contains[[]string,string]
theorem ca90 : callable Try.prog 90 = true := by kernel_rfl   -- spec.l14Kept
theorem ca91 : callable Try.prog 91 = true := by kernel_rfl   -- spec.l14Product
theorem ca92 : callable Try.prog 92 = true := by kernel_rfl   -- impl.times
theorem ca93 : callable Try.prog 93 = true := by kernel_rfl   -- laws.szGet
theorem ca94 : callable Try.prog 94 = true := by kernel_rfl   -- laws.toGet
theorem ca95 : callable Try.prog 95 = true := by kernel_rfl   -- laws.eqGet
theorem ca96 : callable Try.prog 96 = true := by kernel_rfl   -- laws.eqTopic
theorem ca97 : callable Try.prog 97 = true := by kernel_rfl   -- laws.eqMember
theorem ca98 : callable Try.prog 98 = true := by kernel_rfl   -- laws.markText
theorem ca99 : callable Try.prog 99 = true := by kernel_rfl   -- laws.markStringS
theorem ca100 : callable Try.prog 100 = true := by kernel_rfl   -- laws.markSlotS
theorem ca101 : callable Try.prog 101 = true := by kernel_rfl   -- laws.heldStringS
theorem ca102 : callable Try.prog 102 = true := by kernel_rfl   -- laws.heldSlotS
theorem ca103 : callable Try.prog 103 = true := by kernel_rfl   -- laws.szTopic
theorem ca104 : callable Try.prog 104 = true := by kernel_rfl   -- laws.szMember
theorem ca105 : callable Try.prog 105 = true := by kernel_rfl   -- spec.l9Ahead
theorem ca106 : callable Try.prog 106 = true := by kernel_rfl   -- laws.toTopic
theorem ca107 : callable Try.prog 107 = true := by kernel_rfl   -- laws.toMember
theorem ca108 : callable Try.prog 108 = true := by kernel_rfl   -- impl.slotOk
theorem ca109 : callable Try.prog 109 = true := by kernel_rfl   -- impl.slotLess
theorem ca110 : callable Try.prog 110 = true := by kernel_rfl   -- laws.eqSlotS
theorem ca111 : callable Try.prog 111 = true := by kernel_rfl   -- laws.szSlotS
theorem ca112 : callable Try.prog 112 = true := by kernel_rfl   -- laws.toSlotS
theorem ca113 : callable Try.prog 113 = true := by kernel_rfl   -- strings.Compare
theorem ca114 : callable Try.prog 114 = true := by kernel_rfl   -- laws.eqSlot
theorem ca115 : callable Try.prog 115 = true := by kernel_rfl   -- laws.szSlot
theorem ca116 : callable Try.prog 116 = true := by kernel_rfl   -- laws.toSlot
attribute [simp] ti2 ti3 ti4 ti5 ti9 ti12 ti13 ti21 ti30 ti73 ti22 ti74 ti25 ti83 ti29 ti31 ti86 ti36 ti124 ti44 ti45 ti46 ti94 ti49 ti50 ti51 ti129 ti55 ti110 ti104 ti106 ti56 ti57 ti58 ti134 ti63 ti149 ti136 ti138 ti64 ti65 ti66 ti72 ti82 ti93 ti105 ti109 ti114 ti115 ti123 ti128 ti137 ti143 ti144 ti158 ti162 mi115 ca3 ca4 ca5 ca6 ca7 ca8 ca9 ca10 ca11 ca12 ca13 ca14 ca15 ca16 ca17 ca18 ca19 ca20 ca21 ca22 ca23 ca24 ca25 ca26 ca27 ca28 ca29 ca30 ca31 ca32 ca33 ca34 ca35 ca36 ca37 ca38 ca39 ca40 ca41 ca42 ca43 ca44 ca45 ca46 ca47 ca48 ca49 ca50 ca51 ca52 ca53 ca54 ca55 ca56 ca57 ca58 ca59 ca60 ca61 ca62 ca63 ca64 ca65 ca66 ca67 ca68 ca69 ca70 ca71 ca72 ca73 ca74 ca75 ca76 ca77 ca78 ca79 ca80 ca81 ca82 ca83 ca84 ca85 ca86 ca87 ca88 ca89 ca90 ca91 ca92 ca93 ca94 ca95 ca96 ca97 ca98 ca99 ca100 ca101 ca102 ca103 ca104 ca105 ca106 ca107 ca108 ca109 ca110 ca111 ca112 ca113 ca114 ca115 ca116

def tau : TypeId → Option Ty := fun t => match t with
  | 2 => some (Ty.int .i64)
  | 3 => some (Ty.int .i64)
  | 4 => some Ty.bool
  | 5 => some Ty.byte
  | 9 => some Ty.str
  | 12 => some (Ty.int .u64)
  | 13 => some (Ty.pair Ty.str (Ty.int .u64))
  | 21 => some (Ty.int .i32)
  | 30 => some (Ty.sl Ty.str)
  | 73 => some T73
  | 22 => some (Ty.sl T73)
  | 74 => some T74
  | 25 => some (Ty.sl T74)
  | 83 => some T83
  | 29 => some (Ty.sl T83)
  | 31 => some (Ty.sl (Ty.int .i64))
  | 86 => some T86
  | 36 => some (Ty.sl T86)
  | 124 => some T124
  | 44 => some (Ty.sl T124)
  | 45 => some (Ty.pair Ty.str (Ty.pair Ty.str (Ty.pair (Ty.int .i64) (Ty.pair Ty.str (Ty.pair Ty.str (Ty.pair (Ty.sl T83) (Ty.pair (Ty.sl Ty.str) (Ty.pair (Ty.int .i64) (Ty.pair (Ty.int .i64) (Ty.pair (Ty.int .i64) (Ty.sl T124)))))))))))
  | 46 => some T46
  | 94 => some T94
  | 49 => some (Ty.sl T94)
  | 50 => some (Ty.pair Ty.str (Ty.pair Ty.str (Ty.pair (Ty.int .i64) (Ty.pair Ty.str (Ty.pair Ty.str (Ty.pair (Ty.sl T86) (Ty.pair (Ty.sl Ty.str) (Ty.pair (Ty.int .i64) (Ty.pair (Ty.int .i64) (Ty.pair (Ty.int .i64) (Ty.sl T94)))))))))))
  | 51 => some T51
  | 129 => some T129
  | 55 => some (Ty.sl T129)
  | 110 => some T110
  | 104 => some (Ty.sl T110)
  | 106 => some T106
  | 56 => some (Ty.sl T106)
  | 57 => some (Ty.pair (Ty.int .i64) (Ty.pair (Ty.int .i64) (Ty.pair (Ty.int .i64) (Ty.pair (Ty.int .i64) (Ty.pair (Ty.sl T129) (Ty.sl T106))))))
  | 58 => some T58
  | 134 => some T134
  | 63 => some (Ty.sl T134)
  | 149 => some T149
  | 136 => some (Ty.sl T149)
  | 138 => some T138
  | 64 => some (Ty.sl T138)
  | 65 => some (Ty.pair (Ty.int .i64) (Ty.pair (Ty.int .i64) (Ty.pair (Ty.int .i64) (Ty.pair (Ty.int .i64) (Ty.pair (Ty.sl T134) (Ty.sl T138))))))
  | 66 => some T66
  | 72 => some (Ty.pair Ty.str (Ty.pair Ty.bool (Ty.sl Ty.str)))
  | 82 => some (Ty.pair (Ty.int .i64) (Ty.pair (Ty.int .i64) Ty.str))
  | 93 => some (Ty.pair (Ty.int .i64) (Ty.pair (Ty.sl T86) Ty.str))
  | 105 => some (Ty.pair Ty.str (Ty.pair Ty.str (Ty.pair (Ty.sl Ty.str) (Ty.pair (Ty.int .i64) (Ty.pair (Ty.int .i64) (Ty.pair (Ty.sl T110) (Ty.sl T110)))))))
  | 109 => some (Ty.pair Ty.str (Ty.int .i64))
  | 114 => some (Ty.sl (Ty.sl T110))
  | 123 => some (Ty.pair (Ty.int .i64) (Ty.pair (Ty.sl T83) Ty.str))
  | 128 => some (Ty.pair Ty.str (Ty.int .i64))
  | 137 => some (Ty.pair Ty.str (Ty.pair Ty.str (Ty.pair (Ty.sl Ty.str) (Ty.pair (Ty.int .i64) (Ty.pair (Ty.int .i64) (Ty.pair (Ty.sl T149) (Ty.sl T149)))))))
  | 144 => some (Ty.sl Ty.byte)
  | 158 => some (Ty.int .u32)
  | _ => none
theorem tau2 : tau 2 = some (Ty.int .i64) := rfl
theorem tau3 : tau 3 = some (Ty.int .i64) := rfl
theorem tau4 : tau 4 = some Ty.bool := rfl
theorem tau5 : tau 5 = some Ty.byte := rfl
theorem tau9 : tau 9 = some Ty.str := rfl
theorem tau12 : tau 12 = some (Ty.int .u64) := rfl
theorem tau13 : tau 13 = some (Ty.pair Ty.str (Ty.int .u64)) := rfl
theorem tau21 : tau 21 = some (Ty.int .i32) := rfl
theorem tau30 : tau 30 = some (Ty.sl Ty.str) := rfl
theorem tau73 : tau 73 = some T73 := rfl
theorem tau22 : tau 22 = some (Ty.sl T73) := rfl
theorem tau74 : tau 74 = some T74 := rfl
theorem tau25 : tau 25 = some (Ty.sl T74) := rfl
theorem tau83 : tau 83 = some T83 := rfl
theorem tau29 : tau 29 = some (Ty.sl T83) := rfl
theorem tau31 : tau 31 = some (Ty.sl (Ty.int .i64)) := rfl
theorem tau86 : tau 86 = some T86 := rfl
theorem tau36 : tau 36 = some (Ty.sl T86) := rfl
theorem tau124 : tau 124 = some T124 := rfl
theorem tau44 : tau 44 = some (Ty.sl T124) := rfl
theorem tau45 : tau 45 = some (Ty.pair Ty.str (Ty.pair Ty.str (Ty.pair (Ty.int .i64) (Ty.pair Ty.str (Ty.pair Ty.str (Ty.pair (Ty.sl T83) (Ty.pair (Ty.sl Ty.str) (Ty.pair (Ty.int .i64) (Ty.pair (Ty.int .i64) (Ty.pair (Ty.int .i64) (Ty.sl T124))))))))))) := rfl
theorem tau46 : tau 46 = some T46 := rfl
theorem tau94 : tau 94 = some T94 := rfl
theorem tau49 : tau 49 = some (Ty.sl T94) := rfl
theorem tau50 : tau 50 = some (Ty.pair Ty.str (Ty.pair Ty.str (Ty.pair (Ty.int .i64) (Ty.pair Ty.str (Ty.pair Ty.str (Ty.pair (Ty.sl T86) (Ty.pair (Ty.sl Ty.str) (Ty.pair (Ty.int .i64) (Ty.pair (Ty.int .i64) (Ty.pair (Ty.int .i64) (Ty.sl T94))))))))))) := rfl
theorem tau51 : tau 51 = some T51 := rfl
theorem tau129 : tau 129 = some T129 := rfl
theorem tau55 : tau 55 = some (Ty.sl T129) := rfl
theorem tau110 : tau 110 = some T110 := rfl
theorem tau104 : tau 104 = some (Ty.sl T110) := rfl
theorem tau106 : tau 106 = some T106 := rfl
theorem tau56 : tau 56 = some (Ty.sl T106) := rfl
theorem tau57 : tau 57 = some (Ty.pair (Ty.int .i64) (Ty.pair (Ty.int .i64) (Ty.pair (Ty.int .i64) (Ty.pair (Ty.int .i64) (Ty.pair (Ty.sl T129) (Ty.sl T106)))))) := rfl
theorem tau58 : tau 58 = some T58 := rfl
theorem tau134 : tau 134 = some T134 := rfl
theorem tau63 : tau 63 = some (Ty.sl T134) := rfl
theorem tau149 : tau 149 = some T149 := rfl
theorem tau136 : tau 136 = some (Ty.sl T149) := rfl
theorem tau138 : tau 138 = some T138 := rfl
theorem tau64 : tau 64 = some (Ty.sl T138) := rfl
theorem tau65 : tau 65 = some (Ty.pair (Ty.int .i64) (Ty.pair (Ty.int .i64) (Ty.pair (Ty.int .i64) (Ty.pair (Ty.int .i64) (Ty.pair (Ty.sl T134) (Ty.sl T138)))))) := rfl
theorem tau66 : tau 66 = some T66 := rfl
theorem tau72 : tau 72 = some (Ty.pair Ty.str (Ty.pair Ty.bool (Ty.sl Ty.str))) := rfl
theorem tau82 : tau 82 = some (Ty.pair (Ty.int .i64) (Ty.pair (Ty.int .i64) Ty.str)) := rfl
theorem tau93 : tau 93 = some (Ty.pair (Ty.int .i64) (Ty.pair (Ty.sl T86) Ty.str)) := rfl
theorem tau105 : tau 105 = some (Ty.pair Ty.str (Ty.pair Ty.str (Ty.pair (Ty.sl Ty.str) (Ty.pair (Ty.int .i64) (Ty.pair (Ty.int .i64) (Ty.pair (Ty.sl T110) (Ty.sl T110))))))) := rfl
theorem tau109 : tau 109 = some (Ty.pair Ty.str (Ty.int .i64)) := rfl
theorem tau114 : tau 114 = some (Ty.sl (Ty.sl T110)) := rfl
theorem tau123 : tau 123 = some (Ty.pair (Ty.int .i64) (Ty.pair (Ty.sl T83) Ty.str)) := rfl
theorem tau128 : tau 128 = some (Ty.pair Ty.str (Ty.int .i64)) := rfl
theorem tau137 : tau 137 = some (Ty.pair Ty.str (Ty.pair Ty.str (Ty.pair (Ty.sl Ty.str) (Ty.pair (Ty.int .i64) (Ty.pair (Ty.int .i64) (Ty.pair (Ty.sl T149) (Ty.sl T149))))))) := rfl
theorem tau144 : tau 144 = some (Ty.sl Ty.byte) := rfl
theorem tau158 : tau 158 = some (Ty.int .u32) := rfl
attribute [simp] tau2 tau3 tau4 tau5 tau9 tau12 tau13 tau21 tau30 tau73 tau22 tau74 tau25 tau83 tau29 tau31 tau86 tau36 tau124 tau44 tau45 tau46 tau94 tau49 tau50 tau51 tau129 tau55 tau110 tau104 tau106 tau56 tau57 tau58 tau134 tau63 tau149 tau136 tau138 tau64 tau65 tau66 tau72 tau82 tau93 tau105 tau109 tau114 tau123 tau128 tau137 tau144 tau158
theorem mixed : Try.prog.follows .mixedOrders = true := by kernel_rfl
end Go.Proofs.Ytjiejfpbioljeaa
