/- The types and callees of this seat as facts: written by gen.py. -/
import Derived.Test.YtmbnmbgihcmapaaDoorSy20
import Derived.Test.YtmbnmbgihcmapaaDoorProg
namespace Go.Proofs.YtmbnmbgihcmapaaDoor
open Go Go.RowKit
set_option linter.all false
set_option maxRecDepth 100000

abbrev T45 : Ty := (Ty.pair Ty.bool (Ty.pair Ty.str (Ty.pair (Ty.int .i64) (Ty.pair (Ty.int .i64) (Ty.pair Ty.str Ty.bool)))))   -- g00035/laws.Rule
abbrev T37 : Ty := (Ty.pair Ty.bool (Ty.pair Ty.str (Ty.pair (Ty.int .i64) (Ty.pair (Ty.int .i64) (Ty.pair Ty.str Ty.bool)))))   -- g00035/impl.Rule
abbrev T84 : Ty := (Ty.pair (Ty.sl Ty.byte) (Ty.pair (Ty.int .i64) (Ty.int .i64)))   -- g00035/spec.l1Cur
abbrev T105 : Ty := (Ty.pair Ty.byte Ty.byte)   -- unicode/utf8.acceptRange
abbrev D84 : DT := (DT.pair (DT.sl 5 (DT.leaf Ty.byte)) (DT.pair (DT.leaf (Ty.int .i64)) (DT.leaf (Ty.int .i64))))   -- g00035/spec.l1Cur

theorem ti2 : tinfo Tryd.prog 2 = some ⟨false, 1, 8, some [.int .i64 0], .int .i64, true⟩ := by kernel_rfl
theorem ti3 : tinfo Tryd.prog 3 = some ⟨false, 1, 8, some [.int .i64 0], .int .i64, true⟩ := by kernel_rfl
theorem ti4 : tinfo Tryd.prog 4 = some ⟨false, 1, 1, some [.bool false], .bool, true⟩ := by kernel_rfl
theorem ti5 : tinfo Tryd.prog 5 = some ⟨false, 1, 1, some [.int .u8 0], .int .u8, true⟩ := by kernel_rfl
theorem ti9 : tinfo Tryd.prog 9 = some ⟨false, 1, 16, some [.str []], .str, true⟩ := by kernel_rfl
theorem ti12 : tinfo Tryd.prog 12 = some ⟨false, 1, 8, some [.int .u64 0], .int .u64, true⟩ := by kernel_rfl
theorem ti13 : tinfo Tryd.prog 13 = some ⟨true, 2, 24, some [.str [], .int .u64 0], .st [(0, 1, 9), (1, 1, 12)], true⟩ := by kernel_rfl
theorem ti21 : tinfo Tryd.prog 21 = some ⟨false, 1, 4, some [.int .i32 0], .int .i32, true⟩ := by kernel_rfl
theorem ti45 : tinfo Tryd.prog 45 = some ⟨true, 6, 64, some [.bool false, .str [], .int .i64 0, .int .i64 0, .str [], .bool false], .st [(0, 1, 4), (1, 1, 9), (2, 1, 3), (3, 1, 3), (4, 1, 9), (5, 1, 4)], true⟩ := by kernel_rfl
theorem ti22 : tinfo Tryd.prog 22 = some ⟨false, 1, 24, some [.nilsl], .sl 45, true⟩ := by kernel_rfl
theorem ti37 : tinfo Tryd.prog 37 = some ⟨true, 6, 64, some [.bool false, .str [], .int .i64 0, .int .i64 0, .str [], .bool false], .st [(0, 1, 4), (1, 1, 9), (2, 1, 3), (3, 1, 3), (4, 1, 9), (5, 1, 4)], true⟩ := by kernel_rfl
theorem ti25 : tinfo Tryd.prog 25 = some ⟨false, 1, 24, some [.nilsl], .sl 37, true⟩ := by kernel_rfl
theorem ti31 : tinfo Tryd.prog 31 = some ⟨false, 1, 24, some [.nilsl], .sl 5, true⟩ := by kernel_rfl
theorem ti36 : tinfo Tryd.prog 36 = some ⟨true, 6, 64, some [.bool false, .str [], .int .i64 0, .int .i64 0, .str [], .bool false], .st [(0, 1, 4), (1, 1, 9), (2, 1, 3), (3, 1, 3), (4, 1, 9), (5, 1, 4)], true⟩ := by kernel_rfl
theorem ti84 : tinfo Tryd.prog 84 = some ⟨true, 3, 40, some [.nilsl, .int .i64 0, .int .i64 0], .st [(0, 1, 31), (1, 1, 3), (2, 1, 3)], true⟩ := by kernel_rfl
theorem ti54 : tinfo Tryd.prog 54 = some ⟨false, 1, 8, some [.nilp], .ptr 84, true⟩ := by kernel_rfl
theorem ti60 : tinfo Tryd.prog 60 = some ⟨false, 1, 24, some [.nilsl], .sl 3, true⟩ := by kernel_rfl
theorem ti62 : tinfo Tryd.prog 62 = some ⟨false, 1, 24, some [.nilsl], .sl 9, true⟩ := by kernel_rfl
theorem ti75 : tinfo Tryd.prog 75 = some ⟨true, 2, 32, some [.nilp, .nilsl], .st [(0, 1, 73), (1, 1, 31)], true⟩ := by kernel_rfl
theorem ti73 : tinfo Tryd.prog 73 = some ⟨false, 1, 8, some [.nilp], .ptr 75, true⟩ := by kernel_rfl
theorem ti74 : tinfo Tryd.prog 74 = some ⟨true, 2, 32, some [.nilp, .nilsl], .st [(0, 1, 73), (1, 1, 31)], true⟩ := by kernel_rfl
theorem ti83 : tinfo Tryd.prog 83 = some ⟨true, 3, 40, some [.nilsl, .int .i64 0, .int .i64 0], .st [(0, 1, 31), (1, 1, 3), (2, 1, 3)], true⟩ := by kernel_rfl
theorem ti88 : tinfo Tryd.prog 88 = some ⟨false, 1, 8, some [.nilp], .ptr 5, true⟩ := by kernel_rfl
theorem ti89 : tinfo Tryd.prog 89 = some ⟨false, 1, 8, some [.int .u64 0], .int .u64, true⟩ := by kernel_rfl
theorem ti97 : tinfo Tryd.prog 97 = some ⟨false, 1, 4, some [.int .u32 0], .int .u32, true⟩ := by kernel_rfl
theorem ti104 : tinfo Tryd.prog 104 = some ⟨true, 2, 2, some [.int .u8 0, .int .u8 0], .st [(0, 1, 5), (1, 1, 5)], true⟩ := by kernel_rfl
theorem ti105 : tinfo Tryd.prog 105 = some ⟨true, 2, 2, some [.int .u8 0, .int .u8 0], .st [(0, 1, 5), (1, 1, 5)], true⟩ := by kernel_rfl
theorem bi5 : byteI Tryd.prog 5 = true := by kernel_rfl
theorem st9 : strT Tryd.prog 9 = true := by kernel_rfl
theorem eqi45 : eqInfo Tryd.prog 45 = some [.bool, .str, .int .i64, .int .i64, .str, .bool] := by kernel_rfl
theorem eqi37 : eqInfo Tryd.prog 37 = some [.bool, .str, .int .i64, .int .i64, .str, .bool] := by kernel_rfl
theorem ca3 : callable Tryd.prog 3 = true := by kernel_rfl   -- laws.FnExactShowRules
theorem ca4 : callable Tryd.prog 4 = true := by kernel_rfl   -- laws.FnExactAllowed
theorem ca5 : callable Tryd.prog 5 = true := by kernel_rfl   -- laws.FnDenied
theorem ca6 : callable Tryd.prog 6 = true := by kernel_rfl   -- laws.FnExactParseRules
theorem ca7 : callable Tryd.prog 7 = true := by kernel_rfl   -- laws.FnRulesBack
theorem ca8 : callable Tryd.prog 8 = true := by kernel_rfl   -- laws.szRuleS
theorem ca9 : callable Tryd.prog 9 = true := by kernel_rfl   -- spec.ShowRules
theorem ca10 : callable Tryd.prog 10 = true := by kernel_rfl   -- laws.toRuleS
theorem ca11 : callable Tryd.prog 11 = true := by kernel_rfl   -- impl.ShowRules
theorem ca12 : callable Tryd.prog 12 = true := by kernel_rfl   -- laws.eqRuleS
theorem ca13 : callable Tryd.prog 13 = true := by kernel_rfl   -- spec.Allowed
theorem ca14 : callable Tryd.prog 14 = true := by kernel_rfl   -- impl.Allowed
theorem ca15 : callable Tryd.prog 15 = true := by kernel_rfl   -- laws.big
theorem ca16 : callable Tryd.prog 16 = true := by kernel_rfl   -- spec.DrawAllowed
theorem ca17 : callable Tryd.prog 17 = true := by kernel_rfl   -- spec.DrawShowRules
theorem ca18 : callable Tryd.prog 18 = true := by kernel_rfl   -- spec.ParseRules
theorem ca19 : callable Tryd.prog 19 = true := by kernel_rfl   -- impl.ParseRules
theorem ca20 : callable Tryd.prog 20 = true := by kernel_rfl   -- laws.markRuleS
theorem ca21 : callable Tryd.prog 21 = true := by kernel_rfl   -- laws.heldRuleS
theorem ca22 : callable Tryd.prog 22 = true := by kernel_rfl   -- spec.DrawParseRules
theorem ca23 : callable Tryd.prog 23 = true := by kernel_rfl   -- laws.szRule
theorem ca24 : callable Tryd.prog 24 = true := by kernel_rfl   -- spec.l11Rule
theorem ca25 : callable Tryd.prog 25 = true := by kernel_rfl   -- spec.l11Line
theorem ca26 : callable Tryd.prog 26 = true := by kernel_rfl   -- laws.toRule
theorem ca27 : callable Tryd.prog 27 = true := by kernel_rfl   -- impl.showRules
theorem ca28 : callable Tryd.prog 28 = true := by kernel_rfl   -- laws.eqRule
theorem ca29 : callable Tryd.prog 29 = true := by kernel_rfl   -- spec.NameOk
theorem ca30 : callable Tryd.prog 30 = true := by kernel_rfl   -- spec.l1In
theorem ca31 : callable Tryd.prog 31 = true := by kernel_rfl   -- impl.NameOk
theorem ca32 : callable Tryd.prog 32 = true := by kernel_rfl   -- impl.within
theorem ca33 : callable Tryd.prog 33 = true := by kernel_rfl   -- strings.HasPrefix
theorem ca34 : callable Tryd.prog 34 = true := by kernel_rfl   -- spec.l1New
theorem ca35 : callable Tryd.prog 35 = true := by kernel_rfl   -- spec.l1Below
theorem ca36 : callable Tryd.prog 36 = true := by kernel_rfl   -- spec.l11Drawn
theorem ca37 : callable Tryd.prog 37 = true := by kernel_rfl   -- spec.l1Once
theorem ca38 : callable Tryd.prog 38 = true := by kernel_rfl   -- spec.l1PickInt
theorem ca39 : callable Tryd.prog 39 = true := by kernel_rfl   -- spec.l1Pick
theorem ca40 : callable Tryd.prog 40 = true := by kernel_rfl   -- spec.l11Rules
theorem ca41 : callable Tryd.prog 41 = true := by kernel_rfl   -- spec.l1Size
theorem ca42 : callable Tryd.prog 42 = true := by kernel_rfl   -- spec.l11Lines
theorem ca43 : callable Tryd.prog 43 = true := by kernel_rfl   -- spec.l11Words
theorem ca44 : callable Tryd.prog 44 = true := by kernel_rfl   -- spec.l11Place
theorem ca45 : callable Tryd.prog 45 = true := by kernel_rfl   -- spec.l11May
theorem ca46 : callable Tryd.prog 46 = true := by kernel_rfl   -- spec.l11On
theorem ca47 : callable Tryd.prog 47 = true := by kernel_rfl   -- strings.Cut
theorem ca48 : callable Tryd.prog 48 = true := by kernel_rfl   -- impl.parseRule
theorem ca49 : callable Tryd.prog 49 = true := by kernel_rfl   -- laws.markText
theorem ca50 : callable Tryd.prog 50 = true := by kernel_rfl   -- impl.ruleOk
theorem ca51 : callable Tryd.prog 51 = true := by kernel_rfl   -- (*strings.Builder).WriteString
theorem ca52 : callable Tryd.prog 52 = true := by kernel_rfl   -- impl.ruleLine
theorem ca53 : callable Tryd.prog 53 = true := by kernel_rfl   -- (*strings.Builder).String
theorem ca54 : callable Tryd.prog 54 = true := by kernel_rfl   -- (*strings.Builder).Len
theorem ca55 : callable Tryd.prog 55 = true := by kernel_rfl   -- impl.letter
theorem ca56 : callable Tryd.prog 56 = true := by kernel_rfl   -- impl.digit
theorem ca58 : callable Tryd.prog 58 = true := by kernel_rfl   -- spec.l1Byte
theorem ca60 : callable Tryd.prog 60 = true := by kernel_rfl   -- strings.Split
theorem ca61 : callable Tryd.prog 61 = true := by kernel_rfl   -- impl.wordAt
theorem ca62 : callable Tryd.prog 62 = true := by kernel_rfl   -- strings.CutSuffix
theorem ca63 : callable Tryd.prog 63 = true := by kernel_rfl   -- (*strings.Builder).copyCheck
theorem ca65 : callable Tryd.prog 65 = true := by kernel_rfl   -- strings.genSplit
theorem ca72 : callable Tryd.prog 72 = true := by kernel_rfl   -- strings.explode
theorem ca73 : callable Tryd.prog 73 = true := by kernel_rfl   -- strings.Count
theorem ca74 : callable Tryd.prog 74 = true := by kernel_rfl   -- strings.Index
theorem ca78 : callable Tryd.prog 78 = true := by kernel_rfl   -- unicode/utf8.RuneCountInString
theorem ca79 : callable Tryd.prog 79 = true := by kernel_rfl   -- unicode/utf8.DecodeRuneInString
theorem ca81 : callable Tryd.prog 81 = true := by kernel_rfl   -- unicode/utf8.decodeRuneInStringSlow
attribute [simp] ti2 ti3 ti4 ti5 ti9 ti12 ti13 ti21 ti45 ti22 ti37 ti25 ti31 ti36 ti84 ti54 ti60 ti62 ti75 ti73 ti74 ti83 ti88 ti89 ti97 ti104 ti105 bi5 st9 eqi45 eqi37 ca3 ca4 ca5 ca6 ca7 ca8 ca9 ca10 ca11 ca12 ca13 ca14 ca15 ca16 ca17 ca18 ca19 ca20 ca21 ca22 ca23 ca24 ca25 ca26 ca27 ca28 ca29 ca30 ca31 ca32 ca33 ca34 ca35 ca36 ca37 ca38 ca39 ca40 ca41 ca42 ca43 ca44 ca45 ca46 ca47 ca48 ca49 ca50 ca51 ca52 ca53 ca54 ca55 ca56 ca58 ca60 ca61 ca62 ca63 ca65 ca72 ca73 ca74 ca78 ca79 ca81

def tau : TypeId → Option Ty := fun t => match t with
  | 2 => some (Ty.int .i64)
  | 3 => some (Ty.int .i64)
  | 4 => some Ty.bool
  | 5 => some Ty.byte
  | 9 => some Ty.str
  | 12 => some (Ty.int .u64)
  | 13 => some (Ty.pair Ty.str (Ty.int .u64))
  | 21 => some (Ty.int .i32)
  | 45 => some T45
  | 22 => some (Ty.sl T45)
  | 37 => some T37
  | 25 => some (Ty.sl T37)
  | 31 => some (Ty.sl Ty.byte)
  | 36 => some (Ty.pair Ty.bool (Ty.pair Ty.str (Ty.pair (Ty.int .i64) (Ty.pair (Ty.int .i64) (Ty.pair Ty.str Ty.bool)))))
  | 84 => some T84
  | 60 => some (Ty.sl (Ty.int .i64))
  | 62 => some (Ty.sl Ty.str)
  | 83 => some (Ty.pair (Ty.sl Ty.byte) (Ty.pair (Ty.int .i64) (Ty.int .i64)))
  | 89 => some (Ty.int .u64)
  | 97 => some (Ty.int .u32)
  | 104 => some (Ty.pair Ty.byte Ty.byte)
  | 105 => some T105
  | _ => none
theorem tau2 : tau 2 = some (Ty.int .i64) := rfl
theorem tau3 : tau 3 = some (Ty.int .i64) := rfl
theorem tau4 : tau 4 = some Ty.bool := rfl
theorem tau5 : tau 5 = some Ty.byte := rfl
theorem tau9 : tau 9 = some Ty.str := rfl
theorem tau12 : tau 12 = some (Ty.int .u64) := rfl
theorem tau13 : tau 13 = some (Ty.pair Ty.str (Ty.int .u64)) := rfl
theorem tau21 : tau 21 = some (Ty.int .i32) := rfl
theorem tau45 : tau 45 = some T45 := rfl
theorem tau22 : tau 22 = some (Ty.sl T45) := rfl
theorem tau37 : tau 37 = some T37 := rfl
theorem tau25 : tau 25 = some (Ty.sl T37) := rfl
theorem tau31 : tau 31 = some (Ty.sl Ty.byte) := rfl
theorem tau36 : tau 36 = some (Ty.pair Ty.bool (Ty.pair Ty.str (Ty.pair (Ty.int .i64) (Ty.pair (Ty.int .i64) (Ty.pair Ty.str Ty.bool))))) := rfl
theorem tau84 : tau 84 = some T84 := rfl
theorem tau60 : tau 60 = some (Ty.sl (Ty.int .i64)) := rfl
theorem tau62 : tau 62 = some (Ty.sl Ty.str) := rfl
theorem tau83 : tau 83 = some (Ty.pair (Ty.sl Ty.byte) (Ty.pair (Ty.int .i64) (Ty.int .i64))) := rfl
theorem tau89 : tau 89 = some (Ty.int .u64) := rfl
theorem tau97 : tau 97 = some (Ty.int .u32) := rfl
theorem tau104 : tau 104 = some (Ty.pair Ty.byte Ty.byte) := rfl
theorem tau105 : tau 105 = some T105 := rfl
attribute [simp] tau2 tau3 tau4 tau5 tau9 tau12 tau13 tau21 tau45 tau22 tau37 tau25 tau31 tau36 tau84 tau60 tau62 tau83 tau89 tau97 tau104 tau105
theorem mixed : Tryd.prog.follows .mixedOrders = true := by kernel_rfl
end Go.Proofs.YtmbnmbgihcmapaaDoor
