/- The set of rewriting rules that steps a walk. -/
import Derived.Test.YthojapklndjidaaSyK
namespace Go.Proofs.Ythojapklndjidaa
open Go Go.RowKit
set_option linter.all false

@[simp] theorem bsize (a : Array UInt8) : (ByteArray.mk a).size = a.size := rfl
attribute [simp ↓] ACode areg aplan stepT stepO thenQ blockQ
attribute [simp] inR qany qop qop1 qcall eop eop1 aev aof sv useAll Op.operands Call.operands setT gcond binAV binQ nilQ eqQ eqv pickQ pickOne isAny mergeAV retAV expVs expV expCs expC oneOr unAV
 loadQ faddrQ iaddrQ indexQ fieldQ lenQ maxQ minQ pack subl cellsA isCell splice allocE boxE storeE callE viewA viewP viewC cellD cellsD isEp argsPre ctrR decRs decR decE decCs one1 encRs encR encE encCs ctr1 addC decAs decA isWord unflat1 unflat encA encAs castL_rfl St.le leA leT leO leH nodupB wfArgs wfA wfCs Wf detR detC buildQ fillA convQ b2sQ byteTy lowB highB piece sliceQ calleeOf slElem srcOf appendE appendS unflatN inOrder buildSliceE makeE solid1 solid flatTy flatC flatV flatR flatO
 callB callHE callYE namesY closeN addNo addY gl subH mapC mapV mapR mapO idx bwd backH putAll nodupH addN addNs solidV solidM ctrH decHs decRef decArr wholeHs wholeA encHs encOs modesH addH addZ addX ctrX callX eopX Ctrs.zz namesR noC addP addPX eopN callN keepG rng makeMapE mapE lookupQ lenMapQ keyD kM plainW absorb absorb1 absorbN makeDE buildDE appendDE keepF mergeF AObj.flat isDeep isOpe closeS closeLe openH openW objOf decOwn decSl wholeW oslN lenO slN isSl addN1 addD castD_rfl castE_rfl flatD DT.plain DT.ty eqCells wrap64_wrap eqD_true eqD_false eqD_self

theorem retHQ_ret (P : Program) (rs : List ResultVar) (ms : List Bool) (ids : List Nat) (res : AV) (H1 : List AObj) (S : St) : retHQ P rs ms ids res H1 .ret S = (match retAV P S rs with
    | some (p, us) => match solidM ms S.heap us with
      | some (q, vs, H) => p ∧ q ∧ nodupH (namesR ids vs) = true ∧ (namesR ids vs).all (· < H.length) = true ∧ mapR (idx (namesR ids vs)) (oneOr vs) = res ∧ subH H (namesR ids vs) = H1
      | none => False
    | none => False) := rfl
theorem retHQ_normal (P : Program) (rs : List ResultVar) (ms : List Bool) (ids : List Nat) (res : AV) (H1 : List AObj) (S : St) : retHQ P rs ms ids res H1 .normal S = (match retAV P S rs with
    | some (p, us) => match solidM ms S.heap us with
      | some (q, vs, H) => p ∧ q ∧ nodupH (namesR ids vs) = true ∧ (namesR ids vs).all (· < H.length) = true ∧ mapR (idx (namesR ids vs)) (oneOr vs) = res ∧ subH H (namesR ids vs) = H1
      | none => False
    | none => False) := rfl
theorem retXQ_ret (P : Program) (rs : List ResultVar) (ms : List Bool) (ids : List Nat) (all : (AV → List AObj → Prop) → Prop) (S : St) : retXQ P rs ms ids all .ret S = (match retAV P S rs with
    | some (p, us) => match solidM ms S.heap us with
      | some (q, vs, H) => p ∧ q ∧ nodupH (namesR ids vs) = true ∧ (namesR ids vs).all (· < H.length) = true ∧ ∀ K : AV → List AObj → Prop, all K → K (mapR (idx (namesR ids vs)) (oneOr vs)) (subH H (namesR ids vs))
      | none => False
    | none => False) := rfl
theorem retXQ_normal (P : Program) (rs : List ResultVar) (ms : List Bool) (ids : List Nat) (all : (AV → List AObj → Prop) → Prop) (S : St) : retXQ P rs ms ids all .normal S = (match retAV P S rs with
    | some (p, us) => match solidM ms S.heap us with
      | some (q, vs, H) => p ∧ q ∧ nodupH (namesR ids vs) = true ∧ (namesR ids vs).all (· < H.length) = true ∧ ∀ K : AV → List AObj → Prop, all K → K (mapR (idx (namesR ids vs)) (oneOr vs)) (subH H (namesR ids vs))
      | none => False
    | none => False) := rfl
theorem retQ_ret (P : Program) (rs : List ResultVar) (rts : List RS) (n : Nat) (res : AV) (objs : List AObj) (S : St) : retQ P rs rts n res objs .ret S = (match retAV P S rs with
    | some (p, vs) => match expVs n S.heap [] rts vs with
      | some (q, r, bs) => p ∧ q ∧ oneOr r = res ∧ bs.map (·.2) = objs
      | none => False
    | none => False) := rfl
theorem retQ_normal (P : Program) (rs : List ResultVar) (rts : List RS) (n : Nat) (res : AV) (objs : List AObj) (S : St) : retQ P rs rts n res objs .normal S = (match retAV P S rs with
    | some (p, vs) => match expVs n S.heap [] rts vs with
      | some (q, r, bs) => p ∧ q ∧ oneOr r = res ∧ bs.map (·.2) = objs
      | none => False
    | none => False) := rfl

end Go.Proofs.Ythojapklndjidaa
