/- The set of rewriting rules that steps a walk. -/
import Derived.Test.YtjokmclchdcjkaaSy19
namespace Go.Proofs.Ytjokmclchdcjkaa
open Go Go.RowKit
attribute [simp] inR ACode areg qany qop qop1 qcall eop eop1 aev aof sv useAll Op.operands Call.operands setT gcond binAV binQ eqQ eqv pickQ mergeAV retQ retAV expVs expV expCs expC oneOr unAV
 loadQ faddrQ iaddrQ indexQ fieldQ lenQ maxQ minQ pack subl cellsA isCell splice allocE boxE storeE callE viewA viewC argsPre ctr1 addC decAs decA isWord unflat1 unflat encA encAs castL_rfl St.le leA leT leO leH nodupB wfArgs wfA wfCs Wf detR detC buildQ fillA convQ lowB highB piece sliceQ calleeOf slElem srcOf appendE unflatN inOrder buildSliceE makeE solid1 solid flatTy flatC flatV flatR flatO wrap64_wrap
end Go.Proofs.Ytjokmclchdcjkaa
