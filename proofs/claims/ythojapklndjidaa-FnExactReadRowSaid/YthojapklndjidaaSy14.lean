/- Regions. -/
import Derived.Test.YthojapklndjidaaSyH
namespace Go.Proofs.Ythojapklndjidaa
open Go Go.RowKit
set_option linter.unusedVariables false
set_option linter.all false

def slElem (P : Program) (t : TypeId) : Option (TypeId × TI) :=
  match tinfo P t with
  | some ti => match ti.kind with
    | .sl e => match tinfo P e with
      | some te => some (e, te)
      | none => none
    | _ => none
  | none => none

theorem slElem_ok {P : Program} {t e : TypeId} {te : TI} (h : slElem P t = some (e, te)) : P.underlying t = some (.slice e) ∧ tinfo P e = some te := by
  unfold slElem at h
  split at h
  · rename_i ti ht
    split at h
    · rename_i e' hk
      split at h
      · rename_i te' hte
        simp only [Option.some.injEq, Prod.mk.injEq] at h
        obtain ⟨rfl, rfl⟩ := h
        exact ⟨tinfo_sl ht hk, hte⟩
      · cases h
    · cases h
  · cases h

def eop1 (P : Program) (Γ : Ctrs) (τ : TypeId → Option Ty) (H : List AObj) (ev : Operand → AV) (o : Op) : Option ER :=
  match o with
  | .alloc t => (tinfo P t).bind fun ti => allocE H t ti
  | .box t x => boxE H t (ev x)
  | .store t a x => (tinfo P t).bind fun ti => storeE H ti (ev a) (ev x)
  | .buildSlice t len parts => (slElem P t).bind fun p => match Γ.dt p.1 with
    | some d => buildDE H d p.1 p.2 len (parts.toList.map fun q => (q.1, ev q.2))
    | none => buildSliceE τ H p.1 p.2 len (parts.toList.map fun q => (q.1, ev q.2))
  | .makeSlice t l c => (slElem P t).bind fun p => match Γ.dt p.1 with
    | some d => makeDE H d p.1 p.2 (ev l) (ev c)
    | none => makeE τ H p.1 p.2 (ev l) (ev c)
  | .makeMap t none => (mapInfo P t).bind fun mi => makeMapE τ H mi
  | .mapUpdate t m k v => (mapInfo P t).bind fun mi => mapE H mi (ev m) (ev k) (ev v)
  | .slice t x lo hi mx => (tinfo P t).bind fun ti => match solid1 H (ev x) with
    | some (p, c, H') => (sliceQ P ti c (lo.map ev) (hi.map ev) (mx.map ev)).map fun r => ⟨p ∧ r.pre, r.av, H'⟩
    | none => none
  | .call c => match c.callee with
    | .builtin .append => match c.args.toList, c.argTypes.toList with
      | [s, x], [t, t'] => if t = t' then (slElem P t).bind fun p => match appendE P τ H p.1 p.2 (ev s) (ev x) with
        | some r => some r
        | none => appendDE H p.1 p.2 (ev s) (ev x) else (slElem P t).bind fun p => appendS P H p.1 t' (ev s) (ev x)
      | _, _ => none
    | .value x => match ev x with
      | .fn f caps => if callable P f then callB Γ H f (c.args.toList.map ev ++ caps) else none
      | _ => none
    | _ => none
  | _ => none

def eop (P : Program) (Γ : Ctrs) (τ : TypeId → Option Ty) (H : List AObj) (ev : Operand → AV) (o : Op) : Option ER :=
  (eop1 P Γ τ H (fun x => (sv (ev x)).2) o).map fun r => ⟨useAll ev o.operands.toList ∧ r.pre, r.av, r.heap⟩

section
variable {P : Program} {C : Ctx} {Φ : Nat → Option Obj} {L : Locs} {H : List AObj} {w : World} {Γ : Ctrs} {τ : TypeId → Option Ty}

theorem wp_value {o : Oper} {a : Act} {K : Act → World → Prop} {Q : Exit → Act → World → Prop} {w w' : World} {v : Value} (h : (execOp a.eval o).run P w = .ok (.value v) w') (hK : K (a.put o.dst v) w') : o.wp P a w K Q := by
  unfold Oper.wp; rw [h]; exact hK
theorem wp_skip' {o : Oper} {a : Act} {K : Act → World → Prop} {Q : Exit → Act → World → Prop} {w w' : World} (h : (execOp a.eval o).run P w = .ok .skip w') (hK : K (a.put o.dst undef) w') : o.wp P a w K Q := by
  unfold Oper.wp; rw [h]; exact hK
theorem wp_enter {o : Oper} {a : Act} {K : Act → World → Prop} {Q : Exit → Act → World → Prop} {w w' : World} {f : FuncId} {args : Array Value} (h : (execOp a.eval o).run P w = .ok (.enter f args) w') (hK : Calls P f args w' fun e w'' => ∃ v, e = .returned v ∧ K (a.put o.dst v) w'') : o.wp P a w K Q := by
  unfold Oper.wp; rw [h]
  exact hK.mono fun e w'' ⟨v, he, hk⟩ => by subst he; exact hk

theorem run_v2 (s : Sem Value) (w w' : World) (v : Value) (h : s.run P w = .ok v w') : (do pure (Next.value (← s)) : Sem Next).run P w = .ok (.value v) w' := by
  simp only [Sem.run_bind, h, Result.andThen_ok, Sem.run_pure]
theorem run_u2 (s : Sem Unit) (w w' : World) (h : s.run P w = .ok () w') : (do s; pure Next.skip : Sem Next).run P w = .ok .skip w' := by
  simp only [Sem.run_bind, h, Result.andThen_ok, Sem.run_pure]

theorem eop1_ok (hΓ : CtrsOk P Γ) (hI : Inv C Φ L H w) {ev : Operand → AV} {a : Act} {o : Oper} {r : ER} (h : eop1 P Γ τ H ev o.op = some r) (hp : r.pre) (hE : ∀ x ∈ o.op.operands.toList, CVal Φ L (ev x) (a.eval x))
    {K : Act → World → Prop} {Q : Exit → Act → World → Prop} (hK : ∀ v w', EPost C Φ L r v w' → K (a.put o.dst v) w') : o.wp P a w K Q := by
  obtain ⟨dst, op, ty, pos, after, guard⟩ := o
  simp only at h hE hK
  cases op <;> simp only [eop1, Option.bind_eq_some_iff, reduceCtorEq] at h
  case alloc t =>
    obtain ⟨ti, ht, h⟩ := h
    obtain ⟨v, w', h1, h2⟩ := allocE_ok ht h hI
    exact wp_value (run_v2 _ _ _ _ h1) (hK _ _ h2)
  case box t x =>
    obtain ⟨v, w', h1, h2⟩ := boxE_ok (P := P) h hI (hE x (by simp [Op.operands]))
    exact wp_value (run_v2 _ _ _ _ h1) (hK _ _ h2)
  case store t x y =>
    obtain ⟨ti, ht, h⟩ := h
    obtain ⟨w', h1, h2⟩ := storeE_ok ht h hp hI (hE x (by simp [Op.operands])) (hE y (by simp [Op.operands]))
    exact wp_skip' (run_u2 _ _ _ h1) (hK _ _ h2)
  case buildSlice t len parts =>
    obtain ⟨⟨e, te⟩, he, h⟩ := h
    obtain ⟨ht, hte⟩ := slElem_ok he
    have hall : ∀ (j : Nat) p q, (parts.toList.map fun q => (q.1, ev q.2))[j]? = some p → (parts.map fun (i, x) => (i, a.eval x))[j]? = some q → p.1 = q.1 ∧ CVal Φ L p.2 q.2 := fun j p q hj hq => by
      rw [List.getElem?_map] at hj
      rw [Array.getElem?_map] at hq
      cases hjj : parts[j]? with
      | none => rw [hjj] at hq; simp at hq
      | some z =>
        rw [hjj] at hq
        rw [show parts.toList[j]? = some z by simpa using hjj] at hj
        simp at hj hq
        subst hj; subst hq
        refine ⟨rfl, hE z.2 ?_⟩
        simp only [Op.operands, List.mem_map]
        exact ⟨z, by have := List.mem_of_getElem? (show parts.toList[j]? = some z by simpa using hjj); exact this, rfl⟩
    split at h
    · obtain ⟨v, w', h1, h2⟩ := buildDE_ok (vparts := parts.map fun (i, x) => (i, a.eval x)) hI ht hte h hp (by simp) hall
      exact wp_value (run_v2 _ _ _ _ h1) (hK _ _ h2)
    · obtain ⟨v, w', h1, h2⟩ := buildSliceE_ok (vparts := parts.map fun (i, x) => (i, a.eval x)) hI ht hte h hp (by simp) hall
      exact wp_value (run_v2 _ _ _ _ h1) (hK _ _ h2)
  case makeSlice t l c =>
    obtain ⟨⟨e, te⟩, he, h⟩ := h
    obtain ⟨ht, hte⟩ := slElem_ok he
    split at h
    · obtain ⟨v, w', h1, h2⟩ := makeDE_ok hI ht hte h hp (hE l (by simp [Op.operands])) (hE c (by simp [Op.operands]))
      exact wp_value (run_v2 _ _ _ _ h1) (hK _ _ h2)
    · obtain ⟨v, w', h1, h2⟩ := makeE_ok hI ht hte h hp (hE l (by simp [Op.operands])) (hE c (by simp [Op.operands]))
      exact wp_value (run_v2 _ _ _ _ h1) (hK _ _ h2)
  case makeMap t re =>
    cases re with
    | some x => simp [eop1] at h
    | none =>
      simp only [Option.bind_eq_some_iff] at h
      obtain ⟨mi, hmi, h⟩ := h
      obtain ⟨v, w', h1, h2⟩ := makeMapE_ok (P := P) (t := t) h hI
      exact wp_value (run_v2 _ _ _ _ h1) (hK _ _ h2)
  case mapUpdate t m k v =>
    obtain ⟨mi, hmi, h⟩ := h
    obtain ⟨w', h1, h2⟩ := mapE_ok hmi h hI (hE m (by simp [Op.operands])) (hE k (by simp [Op.operands])) (hE v (by simp [Op.operands]))
    exact wp_skip' (run_u2 _ _ _ h1) (hK _ _ h2)
  case slice t x lo hi mx =>
    obtain ⟨ti, ht, h⟩ := h
    split at h
    · rename_i p c H' hs
      obtain ⟨r', hr', rfl⟩ := Option.map_eq_some_iff.1 h
      obtain ⟨hp1, hp2⟩ := hp
      obtain ⟨Φ', hm, hI', hk⟩ := solid1_ok hI hs hp1
      have hE' : ∀ y ∈ (Op.slice t x lo hi mx).operands.toList, CVal Φ' L (ev y) (a.eval y) := fun y hy => (hE y hy).mono hm fun _ _ h => h
      obtain ⟨v, h1, h2, h3⟩ := sliceQ_ok (Φ := Φ') (L := L) ht hr' hp2 (hk _ (hE x (by simp [Op.operands]))) (OptC.map ev a.eval lo fun y hy => hE' y (by subst hy; simp [Op.operands])) (OptC.map ev a.eval hi fun y hy => hE' y (by subst hy; simp [Op.operands])) (OptC.map ev a.eval mx fun y hy => hE' y (by subst hy; simp [Op.operands]))
      exact wp_value (run_v2 _ _ _ _ (h3 w)) (hK _ _ ⟨Φ', L, hm, fun _ _ h => h, hI', h1⟩)
    · cases h
  case call c =>
    obtain ⟨callee, args, argTypes⟩ := c
    simp only at h hE
    split at h
    · split at h
      · rename_i s x t t' ha hta
        split at h
        · rename_i htt; subst htt
          obtain rfl : args = #[s, x] := by simpa using congrArg List.toArray ha
          obtain rfl : argTypes = #[t, t] := by simpa using congrArg List.toArray hta
          simp only [Option.bind_eq_some_iff] at h
          obtain ⟨⟨e, te⟩, he, h⟩ := h
          obtain ⟨ht, hte⟩ := slElem_ok he
          obtain ⟨v, w', h1, h2⟩ : ∃ v' w', (Builtin.append_ #[t, t] ty #[a.eval s, a.eval x]).run P w = .ok v' w' ∧ EPost C Φ L r v' w' := by
            split at h
            · rename_i r' hr'
              simp only [Option.some.injEq] at h; subst h
              exact appendE_ok (ty := ty) hI ht hte hr' hp (hE s (by simp [Op.operands, Call.operands])) (hE x (by simp [Op.operands, Call.operands]))
            · exact appendDE_ok (ty := ty) hI ht hte h hp (hE s (by simp [Op.operands, Call.operands])) (hE x (by simp [Op.operands, Call.operands]))
          refine wp_value ?_ (hK _ _ h2)
          simp [execOp, resolve, invoke, builtin, h1]
        · obtain rfl : args = #[s, x] := by simpa using congrArg List.toArray ha
          obtain rfl : argTypes = #[t, t'] := by simpa using congrArg List.toArray hta
          simp only [Option.bind_eq_some_iff] at h
          obtain ⟨⟨e, te⟩, he, h⟩ := h
          obtain ⟨ht, hte⟩ := slElem_ok he
          obtain ⟨v, w', h1, h2⟩ := appendS_ok (ty := ty) hI ht h hp (hE s (by simp [Op.operands, Call.operands])) (hE x (by simp [Op.operands, Call.operands]))
          refine wp_value ?_ (hK _ _ h2)
          simp [execOp, resolve, invoke, builtin, h1]
      · cases h
    · rename_i x
      split at h
      · rename_i f caps hx
        split at h
        · rename_i hcall
          have hxv := hE x (by simp [Op.operands, Call.operands])
          rw [hx] at hxv
          obtain ⟨us, hus, hul, huc⟩ : ∃ us : Array Value, a.eval x = .func (.func f) #[] us ∧ us.size = caps.length ∧ ∀ (i : Nat) c v, caps[i]? = some c → us[i]? = some v → CVal Φ L c v := by
            generalize a.eval x = u at hxv
            cases hxv with
            | fn _ _ us h1 h2 => exact ⟨us, rfl, h1, h2⟩
          refine wp_enter (execOp_call (c := ⟨.value x, args, argTypes⟩) rfl rfl hus hcall w) ?_
          refine (callB_ok (vs := args.map a.eval ++ us) hΓ hI h hp (by simp [hul]) fun i c v hc hv => ?_).mono fun e w' ⟨v, he, hpost⟩ => ⟨v, he, hK v w' hpost⟩
          by_cases hi : i < args.size
          · rw [List.getElem?_append_left (by simpa using hi), List.getElem?_map] at hc
            rw [Array.getElem?_append_left (by simpa using hi), Array.getElem?_map] at hv
            have e1 : args[i]? = some args[i] := Array.getElem?_eq_getElem hi
            have e2 : args.toList[i]? = some args[i] := by simpa using e1
            rw [e1] at hv; rw [e2] at hc
            simp at hc hv
            subst hc; subst hv
            refine hE _ ?_
            simp only [Op.operands, Call.operands]
            simp
          · rw [List.getElem?_append_right (by simp; omega)] at hc
            rw [Array.getElem?_append_right (by simp; omega)] at hv
            simp only [List.length_map, Array.length_toList] at hc
            simp only [Array.size_map] at hv
            exact huc _ c v hc hv
        · cases h
      · cases h
    · cases h

theorem eop_ok (hΓ : CtrsOk P Γ) (hI : Inv C Φ L H w) {ev : Operand → AV} {a : Act} {o : Oper} {r : ER} (h : eop P Γ τ H ev o.op = some r) (hp : r.pre) (hE : ∀ x, CVal Φ L (ev x) (a.eval x))
    {K : Act → World → Prop} {Q : Exit → Act → World → Prop} (hK : ∀ v w', EPost C Φ L r v w' → K (a.put o.dst v) w') : o.wp P a w K Q := by
  unfold eop at h
  simp only [Option.map_eq_some_iff] at h
  obtain ⟨r', h1, rfl⟩ := h
  have hp1 : useAll ev o.op.operands.toList := hp.1
  have hp2 : r'.pre := hp.2
  exact eop1_ok (ev := fun x => (sv (ev x)).2) hΓ hI h1 hp2 (fun x hx => sv_ok (hE x) (useAll_mem hp1 x hx)) hK

/-! ### A region, operation by operation -/

def setT (l : List AV) : Option Tmp → AV → List AV
  | some d, v => l.set d v
  | none, _ => l

def gcond (S : St) (ops : List Oper) (j : Nat) (want : Bool) : Option Bool :=
  match ops[j]? with
  | some o => match o.dst with
    | some d => match S.tmps[d]? with
      | some (.bool b) => some (b == want)
      | some (.opt c (.bool b)) => some (c && (b == want))
      | _ => none
    | none => none
  | none => none

/-- A call that hands back plain words and leaves no name. -/
def qcall (P : Program) (Γ : Ctrs) (H : List AObj) (ev : Operand → AV) (o : Op) : Option QR :=
  match o with
  | .call c => match c.callee with
    | .value x => match (sv (ev x)).2 with
      | .fn f caps => if callable P f then
          match Γ.q f ((c.args.toList.map (fun x => (sv (ev x)).2) ++ caps).map fun c => (viewA H c).2) H.length with
          | some r => match r.objs, detR r.res with
            | [], some _ => some ⟨useAll ev o.operands.toList ∧ argsPre H (c.args.toList.map (fun x => (sv (ev x)).2) ++ caps) ∧ r.pre, True, r.res⟩
            | _, _ => none
          | none => none
        else none
      | _ => none
    | _ => none
  | _ => none

def qany (P : Program) (Γ : Ctrs) (H : List AObj) (ev : Operand → AV) (o : Op) : Option QR :=
  match qop P H ev o with
  | some r => some r
  | none => qcall P Γ H ev o

/-- A call whose answer is known only to exist. -/
def eopX (P : Program) (Γ : Ctrs) (H : List AObj) (ev : Operand → AV) (o : Op) : Option XR :=
  match o with
  | .call c => match c.callee with
    | .value x => match (sv (ev x)).2 with
      | .fn f caps => if callable P f then (callX Γ.x H f (c.args.toList.map (fun x => (sv (ev x)).2) ++ caps)).map fun r => ⟨useAll ev o.operands.toList ∧ r.pre, r.all⟩ else none
      | _ => none
    | _ => none
  | _ => none

theorem eopX_ok (hΓ : CtrsOk P Γ) (hI : Inv C Φ L H w) {ev : Operand → AV} {a : Act} {o : Oper} {r : XR} (h : eopX P Γ H ev o.op = some r) (hp : r.pre) (hE : ∀ x, CVal Φ L (ev x) (a.eval x))
    {K : Act → World → Prop} {Q : Exit → Act → World → Prop} (hK : ∀ v w' av h, (∀ K : AV → List AObj → Prop, r.all K → K av h) → EPost C Φ L ⟨True, av, h⟩ v w' → K (a.put o.dst v) w') : o.wp P a w K Q := by
  obtain ⟨dst, op, ty, pos, after, guard⟩ := o
  simp only at h hK
  cases op <;> simp only [eopX, reduceCtorEq] at h
  case call c =>
    obtain ⟨callee, args, argTypes⟩ := c
    simp only at h
    split at h
    · rename_i x
      split at h
      · rename_i f caps hx
        split at h
        · rename_i hcall
          obtain ⟨r', h', rfl⟩ := Option.map_eq_some_iff.1 h
          obtain ⟨hu, hp'⟩ := hp
          have hmem : ∀ y ∈ (Op.call ⟨.value x, args, argTypes⟩).operands.toList, CVal Φ L (sv (ev y)).2 (a.eval y) := fun y hy => sv_ok (hE y) (useAll_mem hu y hy)
          have hxv := hmem x (by simp [Op.operands, Call.operands])
          rw [hx] at hxv
          obtain ⟨us, hus, hul, huc⟩ : ∃ us : Array Value, a.eval x = .func (.func f) #[] us ∧ us.size = caps.length ∧ ∀ (i : Nat) c v, caps[i]? = some c → us[i]? = some v → CVal Φ L c v := by
            generalize a.eval x = u at hxv
            cases hxv with
            | fn _ _ us h1 h2 => exact ⟨us, rfl, h1, h2⟩
          refine wp_enter (execOp_call (c := ⟨.value x, args, argTypes⟩) rfl rfl hus hcall w) ?_
          refine (callX_ok (vs := args.map a.eval ++ us) hΓ.2.2.2.1 hI h' hp' (by simp [hul]) fun i c v hc hv => ?_).mono fun e w' ⟨v, av, hh, ha, he, hpost⟩ => ⟨v, he, hK v w' av hh ha hpost⟩
          by_cases hi : i < args.size
          · rw [List.getElem?_append_left (by simpa using hi), List.getElem?_map] at hc
            rw [Array.getElem?_append_left (by simpa using hi), Array.getElem?_map] at hv
            have e1 : args[i]? = some args[i] := Array.getElem?_eq_getElem hi
            have e2 : args.toList[i]? = some args[i] := by simpa using e1
            rw [e1] at hv; rw [e2] at hc
            simp at hc hv
            subst hc; subst hv
            refine hmem _ ?_
            simp only [Op.operands, Call.operands]
            simp
          · rw [List.getElem?_append_right (by simp; omega)] at hc
            rw [Array.getElem?_append_right (by simp; omega)] at hv
            simp only [List.length_map, Array.length_toList] at hc
            simp only [Array.size_map] at hv
            exact huc _ c v hc hv
        · cases h
      · cases h
    · cases h

def areg (P : Program) (Γ : Ctrs) (τ : TypeId → Option Ty) (draw : Bool) (ops : List Oper) : List Oper → St → (St → Prop) → Prop
  | [], S, K => K S
  | o :: rest, S, K =>
    match o.guard with
    | none => match qany P Γ S.heap (aev S) o.op with
      | some r => r.pre ∧ (r.post → areg P Γ τ draw ops rest ⟨setT S.tmps o.dst r.av, S.heap⟩ K)
      | none => if draw then False else match eop P Γ τ S.heap (aev S) o.op with
        | some r => r.pre ∧ areg P Γ τ draw ops rest ⟨setT S.tmps o.dst r.av, r.heap⟩ K
        | none => match eopX P Γ S.heap (aev S) o.op with
          | some r => r.pre ∧ r.all fun av h => areg P Γ τ draw ops rest ⟨setT S.tmps o.dst av, h⟩ K
          | none => False
    | some (j, want) => match gcond S ops j want with
      | some c => match qany P Γ S.heap (aev S) o.op with
        | some r => (c = true → r.pre) ∧ ((c = true → r.post) → areg P Γ τ draw ops rest ⟨setT S.tmps o.dst (.opt c r.av), S.heap⟩ K)
        | none => if draw then False else match eop P Γ τ S.heap (aev S) o.op with
          | some r => (c = true → r.pre ∧ areg P Γ τ draw ops rest ⟨setT S.tmps o.dst (.opt c r.av), r.heap⟩ K) ∧ (c = false → areg P Γ τ draw ops rest ⟨setT S.tmps o.dst (.opt c r.av), S.heap⟩ K)
          | none => match eopX P Γ S.heap (aev S) o.op with
            | some r => (c = true → r.pre ∧ r.all fun av h => areg P Γ τ draw ops rest ⟨setT S.tmps o.dst (.opt c av), h⟩ K) ∧ (c = false → areg P Γ τ draw ops rest ⟨setT S.tmps o.dst (.opt c .any), S.heap⟩ K)
            | none => False
      | none => False

theorem detC_any {Φ' : Nat → Option Obj} {L' : Locs} {c : AV} {u v : Value} (h : detC c = some u) (hv : CVal Φ L c v) : CVal Φ' L' c v := by
  cases hv <;> first | (cases h; done) | skip
  · exact .bool _
  · exact .int _ _ ‹_›
  · exact .str _ ‹_›
  · exact .nilp
  · exact .nili
theorem detC_mem : ∀ {cs : List AV} {l : List Value}, cs.mapM detC = some l → ∀ (i : Nat) c, cs[i]? = some c → ∃ u, detC c = some u
  | [], l, h, i, c, hc => by simp at hc
  | x :: cs, l, h, i, c, hc => by
    simp only [List.mapM_cons, Option.bind_eq_bind, Option.pure_def] at h
    cases hx : detC x with
    | none => simp [hx] at h
    | some y =>
      cases hr : cs.mapM detC with
      | none => simp [hx, hr] at h
      | some rest =>
        cases i with
        | zero => simp at hc; subst hc; exact ⟨y, hx⟩
        | succ i => exact detC_mem hr i c (by simpa using hc)
theorem detR_any {Φ' : Nat → Option Obj} {L' : Locs} {c : AV} {u v : Value} (h : detR c = some u) (hv : CVal Φ L c v) : CVal Φ' L' c v := by
  by_cases htup : ∃ cs, c = .tup cs
  · obtain ⟨cs, rfl⟩ := htup
    cases hv with
    | tup _ vs h1 h2 =>
      simp only [detR, Option.map_eq_some_iff] at h
      obtain ⟨l, hl, rfl⟩ := h
      refine .tup _ vs h1 fun i c v hc hv => ?_
      obtain ⟨u', hu'⟩ := detC_mem hl i c hc
      exact detC_any hu' (h2 i c v hc hv)
  · refine detC_any (u := u) ?_ hv
    unfold detR at h
    split at h
    · exact absurd ⟨_, rfl⟩ htup
    · exact h

/-- What a quiet operation or a quiet call yields. -/
theorem qany_ok (hΓ : CtrsOk P Γ) (hI : Inv C Φ L H w) {ev : Operand → AV} {a : Act} {o : Oper} {r : QR} (h : qany P Γ H ev o.op = some r) (hp : r.pre) (hE : ∀ x, CVal Φ L (ev x) (a.eval x)) :
    ∃ v, CVal Φ L r.av v ∧ r.post ∧ ∀ w', Below w.heap.size w w' → o.quietAt P a (Below w.heap.size w) w' v := by
  unfold qany at h
  split at h
  · rename_i r' hq
    simp only [Option.some.injEq] at h; subst h
    obtain ⟨v, h1, h2, h3⟩ := qop_ok hq hp hI hE
    refine ⟨v, h1, h2, fun w' hb => ?_⟩
    unfold Oper.quietAt
    rw [h3 w' (hI.agr hb)]
    exact ⟨rfl, rfl⟩
  · rename_i hqn
    clear hqn
    obtain ⟨dst, op, ty, pos, after, guard⟩ := o
    simp only at h
    unfold qcall at h
    split at h
    · rename_i c
      split at h
      · rename_i x hcal
        split at h
        · rename_i f caps hx
          split at h
          · rename_i hcall
            split at h
            · rename_i cr hcr
              split at h
              · rename_i u hobjs hdet
                simp only [Option.some.injEq] at h; subst h
                obtain ⟨hu, hpa, hpr⟩ := hp
                have hmem : ∀ y ∈ (Op.call c).operands.toList, CVal Φ L (sv (ev y)).2 (a.eval y) := fun y hy => sv_ok (hE y) (useAll_mem hu y hy)
                have hxv := hmem x (by simp [Op.operands, Call.operands, hcal])
                rw [hx] at hxv
                obtain ⟨us, hus, hul, huc⟩ : ∃ us : Array Value, a.eval x = .func (.func f) #[] us ∧ us.size = caps.length ∧ ∀ (i : Nat) c v, caps[i]? = some c → us[i]? = some v → CVal Φ L c v := by
                  generalize a.eval x = u at hxv
                  cases hxv with
                  | fn _ _ us h1 h2 => exact ⟨us, rfl, h1, h2⟩
                have hargs : ∀ (i : Nat) k v, (c.args.toList.map (fun x => (sv (ev x)).2) ++ caps)[i]? = some k → (c.args.map a.eval ++ us)[i]? = some v → CVal Φ L k v := by
                  intro i k v hc hv
                  by_cases hi : i < c.args.size
                  · rw [List.getElem?_append_left (by simpa using hi), List.getElem?_map] at hc
                    rw [Array.getElem?_append_left (by simpa using hi), Array.getElem?_map] at hv
                    have e1 : c.args[i]? = some c.args[i] := Array.getElem?_eq_getElem hi
                    have e2 : c.args.toList[i]? = some c.args[i] := by simpa using e1
                    rw [e1] at hv; rw [e2] at hc
                    simp at hc hv
                    subst hc; subst hv
                    refine hmem _ ?_
                    simp only [Op.operands, Call.operands, hcal]
                    simp
                  · rw [List.getElem?_append_right (by simp; omega)] at hc
                    rw [Array.getElem?_append_right (by simp; omega)] at hv
                    simp only [List.length_map, Array.length_toList] at hc
                    simp only [Array.size_map] at hv
                    exact huc _ k v hc hv
                -- the one value
                have key : ∀ w', Below w.heap.size w w' → Calls P f (c.args.map a.eval ++ us) w' fun e w'' => e = .returned u ∧ Below w.heap.size w w'' := by
                  intro w' hb
                  have hI' := hI.below hb
                  have := hΓ.1 f _ _ cr hcr hpr w' (fun b => w'.heap[b]?) L (c.args.map a.eval ++ us) hI'.len (fun _ _ h => h) (hI'.glob.more hI'.frz) (by simp [hul]) (fun i k v hc hvi => by
                    rw [List.getElem?_map] at hc
                    cases hci : (c.args.toList.map (fun x => (sv (ev x)).2) ++ caps)[i]? with
                    | none => rw [hci] at hc; simp at hc
                    | some y =>
                      rw [hci] at hc; simp at hc; subst hc
                      exact viewA_ok hI' (foldr_and hpa i _ (by rw [List.getElem?_map, hci]; rfl)) (hargs i y v hci hvi))
                  exact this.mono fun e w'' ⟨v, Φ', Ln, he, hb', _, _, _, _, hres⟩ => by
                    rw [detR_ok hdet hres] at he
                    exact ⟨he, hb.trans (hb'.mono hb.size)⟩
                have hcv : ∃ v, v = u ∧ CVal Φ L cr.res v := by
                  obtain ⟨e, w'', fr, ⟨v, Φ', Ln, he, _, _, _, _, _, hres⟩, _⟩ := hΓ.1 f _ _ cr hcr hpr w (fun b => w.heap[b]?) L (c.args.map a.eval ++ us) hI.len (fun _ _ h => h) (hI.glob.more hI.frz) (by simp [hul]) (fun i k v hc hvi => by
                    rw [List.getElem?_map] at hc
                    cases hci : (c.args.toList.map (fun x => (sv (ev x)).2) ++ caps)[i]? with
                    | none => rw [hci] at hc; simp at hc
                    | some y =>
                      rw [hci] at hc; simp at hc; subst hc
                      exact viewA_ok hI (foldr_and hpa i _ (by rw [List.getElem?_map, hci]; rfl)) (hargs i y v hci hvi)) []
                  exact ⟨v, detR_ok hdet hres, detR_any hdet hres⟩
                obtain ⟨_, rfl, hcv⟩ := hcv
                refine ⟨_, hcv, trivial, fun w' hb => ?_⟩
                unfold Oper.quietAt
                rw [execOp_call rfl hcal hus hcall w']
                exact ⟨rfl, key w' hb⟩
              · cases h
            · cases h
          · cases h
        · cases h
      · cases h
    · cases h

/-! ### A region that draws its order, by a plan -/

def planB (ops : Array Oper) : Nat → Array Bool → Plan → Bool
  | _, l, .done => (Region.ready .any ops l).isEmpty
  | n + 1, l, .take i p => Region.free .any ops l i && (Region.ready .any ops l).contains i && planB ops n (l.setIfInBounds i true) p
  | n + 1, l, .one i p => (Region.ready .any ops l) == [i] && planB ops n (l.setIfInBounds i true) p
  | n + 1, l, .two i j p q => (Region.ready .any ops l) == [i, j] && planB ops n (l.setIfInBounds i true) p && planB ops n (l.setIfInBounds j true) q
  | 0, _, _ => false

/-- A call that writes nothing that was there. -/
def eopN (P : Program) (Γ : Ctrs) (H : List AObj) (ev : Operand → AV) (o : Op) : Option ER :=
  match o with
  | .call c => match c.callee with
    | .value x => match (sv (ev x)).2 with
      | .fn f caps => if callable P f then (callN Γ H f (c.args.toList.map (fun x => (sv (ev x)).2) ++ caps)).map fun r => ⟨useAll ev o.operands.toList ∧ r.pre, r.av, r.heap⟩ else none
      | _ => none
    | _ => none
  | _ => none

theorem eopN_ok (hΓ : CtrsOk P Γ) (hI : Inv C Φ L H w) {ev : Operand → AV} {a : Act} {o : Oper} {r : ER} (h : eopN P Γ H ev o.op = some r) (hp : r.pre) (hE : ∀ x, CVal Φ L (ev x) (a.eval x))
    {K : Act → World → Prop} {Q : Exit → Act → World → Prop} (hK : ∀ v w', EPost C Φ L r v w' → Below w.heap.size w w' → LiveLe H r.heap → K (a.put o.dst v) w') : o.wp P a w K Q := by
  obtain ⟨dst, op, ty, pos, after, guard⟩ := o
  simp only at h hK
  cases op <;> simp only [eopN, reduceCtorEq] at h
  case call c =>
    obtain ⟨callee, args, argTypes⟩ := c
    simp only at h
    split at h
    · rename_i x
      split at h
      · rename_i f caps hx
        split at h
        · rename_i hcall
          obtain ⟨r', h', rfl⟩ := Option.map_eq_some_iff.1 h
          obtain ⟨hu, hp'⟩ := hp
          have hmem : ∀ y ∈ (Op.call ⟨.value x, args, argTypes⟩).operands.toList, CVal Φ L (sv (ev y)).2 (a.eval y) := fun y hy => sv_ok (hE y) (useAll_mem hu y hy)
          have hxv := hmem x (by simp [Op.operands, Call.operands])
          rw [hx] at hxv
          obtain ⟨us, hus, hul, huc⟩ : ∃ us : Array Value, a.eval x = .func (.func f) #[] us ∧ us.size = caps.length ∧ ∀ (i : Nat) c v, caps[i]? = some c → us[i]? = some v → CVal Φ L c v := by
            generalize a.eval x = u at hxv
            cases hxv with
            | fn _ _ us h1 h2 => exact ⟨us, rfl, h1, h2⟩
          refine wp_enter (execOp_call (c := ⟨.value x, args, argTypes⟩) rfl rfl hus hcall w) ?_
          refine (callN_ok (vs := args.map a.eval ++ us) hΓ hI h' hp' (by simp [hul]) fun i c v hc hv => ?_).mono fun e w' ⟨v, he, hpost, hbl, hlv⟩ => ⟨v, he, hK v w' hpost hbl hlv⟩
          by_cases hi : i < args.size
          · rw [List.getElem?_append_left (by simpa using hi), List.getElem?_map] at hc
            rw [Array.getElem?_append_left (by simpa using hi), Array.getElem?_map] at hv
            have e1 : args[i]? = some args[i] := Array.getElem?_eq_getElem hi
            have e2 : args.toList[i]? = some args[i] := by simpa using e1
            rw [e1] at hv; rw [e2] at hc
            simp at hc hv
            subst hc; subst hv
            refine hmem _ ?_
            simp only [Op.operands, Call.operands]
            simp
          · rw [List.getElem?_append_right (by simp; omega)] at hc
            rw [Array.getElem?_append_right (by simp; omega)] at hv
            simp only [List.length_map, Array.length_toList] at hc
            simp only [Array.size_map] at hv
            exact huc _ c v hc hv
        · cases h
      · cases h
    · cases h

def keepG (p : Nat → Bool) : Nat → List AObj → List AObj
  | _, [] => []
  | i, o :: r => (if p i = true then o else .dead) :: keepG p (i + 1) r
/-- Of what may be written in a region that draws: objects without memory behind them. -/
def keepF (p : Nat → Bool) : Nat → List AObj → List AObj
  | _, [] => []
  | i, o :: r => (if p i = true ∧ o.flat = true then o else .dead) :: keepF p (i + 1) r
def mergeF (p : Nat → Bool) : Nat → List AObj → List AObj → List AObj
  | i, o :: r, o' :: r' => (if p i = true ∧ o.flat = true then o' else o) :: mergeF p (i + 1) r r'
  | _, _, r' => r'
def rng : Nat → Nat → List Nat
  | _, 0 => []
  | a, n + 1 => a :: rng (a + 1) n

def stepT (P : Program) (ops : Array Oper) (Y : List Nat) (o : Oper) (S : St) (K : St → Prop) : Prop :=
  match o.guard with
  | none => match qop P (keepG (fun i => !Y.contains i) 0 S.heap) (aev S) o.op with
    | some r => r.pre ∧ (r.post → K ⟨setT S.tmps o.dst r.av, S.heap⟩)
    | none => False
  | some (j, want) => match gcond S ops.toList j want with
    | some c => match qop P (keepG (fun i => !Y.contains i) 0 S.heap) (aev S) o.op with
      | some r => (c = true → r.pre) ∧ ((c = true → r.post) → K ⟨setT S.tmps o.dst (.opt c r.av), S.heap⟩)
      | none => False
    | none => False
/-- One step of those that write: behind it the names that may be written. -/
def stepO (P : Program) (Γ : Ctrs) (τ : TypeId → Option Ty) (ops : Array Oper) (Y : List Nat) (o : Oper) (S : St) (K : List Nat → St → Prop) : Prop :=
  match o.guard with
  | none => match qany P Γ S.heap (aev S) o.op with
    | some r => r.pre ∧ (r.post → K Y ⟨setT S.tmps o.dst r.av, S.heap⟩)
    | none => match eopN P Γ S.heap (aev S) o.op with
      | some r => r.pre ∧ K Y ⟨setT S.tmps o.dst r.av, r.heap⟩
      | none => match eop P Γ τ (keepF (fun i => Y.contains i) 0 S.heap) (aev S) o.op with
        | some r => r.pre ∧ K (Y ++ rng S.heap.length (r.heap.length - S.heap.length)) ⟨setT S.tmps o.dst r.av, mergeF (fun i => Y.contains i) 0 S.heap r.heap⟩
        | none => match eopX P Γ (keepF (fun i => Y.contains i) 0 S.heap) (aev S) o.op with
          | some r => r.pre ∧ r.all fun av h => K (Y ++ rng S.heap.length (h.length - S.heap.length)) ⟨setT S.tmps o.dst av, mergeF (fun i => Y.contains i) 0 S.heap h⟩
          | none => False
  | some (j, want) => match gcond S ops.toList j want with
    | some c => match qany P Γ S.heap (aev S) o.op with
      | some r => (c = true → r.pre) ∧ ((c = true → r.post) → K Y ⟨setT S.tmps o.dst (.opt c r.av), S.heap⟩)
      | none => match eopN P Γ S.heap (aev S) o.op with
        | some r => (c = true → r.pre ∧ K Y ⟨setT S.tmps o.dst (.opt c r.av), r.heap⟩) ∧ (c = false → K Y ⟨setT S.tmps o.dst (.opt c r.av), S.heap⟩)
        | none => match eopX P Γ (keepF (fun i => Y.contains i) 0 S.heap) (aev S) o.op with
          | some r => (c = true → r.pre ∧ r.all fun av h => K (Y ++ rng S.heap.length (h.length - S.heap.length)) ⟨setT S.tmps o.dst (.opt c av), mergeF (fun i => Y.contains i) 0 S.heap h⟩) ∧ (c = false → K Y ⟨setT S.tmps o.dst (.opt c .any), S.heap⟩)
          | none => False
    | none => False

def aplan (P : Program) (Γ : Ctrs) (τ : TypeId → Option Ty) (ops : Array Oper) : Bool → List Nat → Plan → St → (St → Prop) → Prop
  | _, _, .done, S, K => K S
  | true, Y, .take i p, S, K => match ops[i]? with
    | some o => stepT P ops Y o S fun S' => aplan P Γ τ ops true Y p S' K
    | none => False
  | false, _, .take _ _, _, _ => False
  | _, Y, .one i p, S, K => match ops[i]? with
    | some o => stepO P Γ τ ops Y o S fun Y' S' => aplan P Γ τ ops false Y' p S' K
    | none => False
  | _, Y, .two i j p q, S, K => (match ops[i]? with
    | some o => stepO P Γ τ ops Y o S fun Y' S' => aplan P Γ τ ops false Y' p S' K
    | none => False) ∧ (match ops[j]? with
    | some o => stepO P Γ τ ops Y o S fun Y' S' => aplan P Γ τ ops false Y' q S' K
    | none => False)

theorem keepG_get {p : Nat → Bool} : ∀ {H : List AObj} {k i : Nat}, (keepG p k H)[i]? = (H[i]?).map fun o => if p (k + i) = true then o else .dead
  | [], k, i => by simp [keepG]
  | o :: H, k, 0 => by simp [keepG]
  | o :: H, k, i + 1 => by
    rw [keepG, List.getElem?_cons_succ, List.getElem?_cons_succ, keepG_get (H := H) (k := k + 1) (i := i), show k + 1 + i = k + (i + 1) by omega]
theorem keepG_length {p : Nat → Bool} : ∀ {H : List AObj} {k : Nat}, (keepG p k H).length = H.length
  | [], k => rfl
  | o :: H, k => by simp [keepG, keepG_length (H := H)]
theorem keepF_get {p : Nat → Bool} : ∀ {H : List AObj} {k i : Nat}, (keepF p k H)[i]? = (H[i]?).map fun o => if p (k + i) = true ∧ o.flat = true then o else .dead
  | [], k, i => by simp [keepF]
  | o :: H, k, 0 => by simp [keepF]
  | o :: H, k, i + 1 => by
    rw [keepF, List.getElem?_cons_succ, List.getElem?_cons_succ, keepF_get (H := H) (k := k + 1) (i := i), show k + 1 + i = k + (i + 1) by omega]
theorem keepF_length {p : Nat → Bool} : ∀ {H : List AObj} {k : Nat}, (keepF p k H).length = H.length
  | [], k => rfl
  | o :: H, k => by simp [keepF, keepF_length (H := H)]
theorem mergeF_length {p : Nat → Bool} : ∀ {H H1 : List AObj} {k : Nat}, H.length ≤ H1.length → (mergeF p k H H1).length = H1.length
  | [], _, k, _ => by unfold mergeF; rfl
  | _ :: _, [], k, h => by simp at h
  | o :: H, o' :: H1, k, h => by simp [mergeF, mergeF_length (H := H) (H1 := H1) (k := k + 1) (by simpa using h)]
theorem mergeF_get {p : Nat → Bool} : ∀ {H H1 : List AObj} {k i : Nat}, H.length ≤ H1.length → (mergeF p k H H1)[i]? = match H[i]? with
    | some o => if p (k + i) = true ∧ o.flat = true then H1[i]? else some o
    | none => H1[i]?
  | [], _, k, i, _ => by unfold mergeF; simp
  | _ :: _, [], k, i, h => by simp at h
  | o :: H, o' :: H1, k, 0, h => by
    rw [mergeF]
    simp only [List.getElem?_cons_zero, Nat.add_zero]
    split <;> rfl
  | o :: H, o' :: H1, k, i + 1, h => by
    rw [mergeF, List.getElem?_cons_succ, List.getElem?_cons_succ, List.getElem?_cons_succ, mergeF_get (H := H) (H1 := H1) (k := k + 1) (i := i) (by simpa using h), show k + 1 + i = k + (i + 1) by omega]
theorem mem_rng : ∀ {n a i : Nat}, i ∈ rng a n ↔ a ≤ i ∧ i < a + n
  | 0, a, i => by simp [rng]
  | n + 1, a, i => by simp [rng, mem_rng (n := n)]; omega

/-- The blocks that may be written: those of objects without memory behind them. -/
def cutW (Y : List Nat) (L : Locs) (H : List AObj) : List Nat := subW L (keepF (fun i => Y.contains i) 0 H) Y
theorem cutW_mem {Y : List Nat} {g : Nat} : g ∈ cutW Y L H ↔ ∃ j ∈ Y, ∃ o cap, H[j]? = some o ∧ o.live = true ∧ o.flat = true ∧ L[j]? = some (some (g, cap)) := by
  unfold cutW
  rw [subW_mem]
  constructor
  · rintro ⟨j, hj, o, cap, h1, h2, h3⟩
    rw [keepF_get] at h1
    cases hi : H[j]? with
    | none => rw [hi] at h1; simp at h1
    | some o' =>
      rw [hi] at h1
      simp only [Option.map_some, Option.some.injEq, Nat.zero_add] at h1
      split at h1
      · rename_i hc
        subst h1
        exact ⟨j, hj, o', cap, hi, h2, hc.2, h3⟩
      · subst h1; cases h2
  · rintro ⟨j, hj, o, cap, h1, h2, h4, h3⟩
    refine ⟨j, hj, o, cap, ?_, h2, h3⟩
    rw [keepF_get, h1]
    simp only [Option.map_some, Option.some.injEq, Nat.zero_add]
    rw [if_pos ⟨by simpa using hj, h4⟩]

theorem Inv.cut (h : Inv C Φ L H w) (Y : List Nat) : Inv ⟨w, Φ, cutW Y L H, L⟩ Φ L (keepF (fun i => Y.contains i) 0 H) w := by
  have hget : ∀ (i : Nat) o, (keepF (fun i => Y.contains i) 0 H)[i]? = some o → ∃ o', H[i]? = some o' ∧ ((o = o' ∧ i ∈ Y ∧ o.flat = true) ∨ o = .dead) := fun i o ho => by
    rw [keepF_get] at ho
    cases hi : H[i]? with
    | none => rw [hi] at ho; simp at ho
    | some o' =>
      rw [hi] at ho
      simp only [Option.map_some, Option.some.injEq, Nat.zero_add] at ho
      refine ⟨o', rfl, ?_⟩
      split at ho
      · rename_i hy
        subst ho; exact .inl ⟨rfl, by simpa using hy.1, hy.2⟩
      · exact .inr ho.symm
  have hlive : ∀ (i : Nat) o, (keepF (fun i => Y.contains i) 0 H)[i]? = some o → o.live = true → H[i]? = some o ∧ i ∈ Y ∧ o.flat = true := fun i o ho hl => by
    obtain ⟨o', h1, h2⟩ := hget i o ho
    rcases h2 with ⟨rfl, hy⟩ | rfl
    · exact ⟨h1, hy⟩
    · cases hl
  refine ⟨?_, ⟨fun _ => [], fun i o ho hl => ?_⟩⟩
  rotate_left
  · obtain ⟨h1, _, hf⟩ := hlive i o ho hl
    obtain ⟨l, hl', _⟩ := h.obj i o h1
    exact .empty rfl ⟨l, hl', (Dp.flat hf).2 rfl⟩
  constructor
  · rw [keepF_length]; exact h.len
  · exact h.frz
  · exact More.refl _
  · exact h.glob
  · exact fun b o hb => .inl hb
  · rfl
  · rfl
  · rfl
  · exact Nat.le_refl _
  · exact fun _ _ _ => rfl
  · intro i o ho
    obtain ⟨o', h1, h2⟩ := hget i o ho
    obtain ⟨l, hl, hk⟩ := h.obj i o' h1
    rcases h2 with ⟨rfl, _⟩ | rfl
    · exact ⟨l, hl, hk⟩
    · exact ⟨l, hl, trivial⟩
  · intro i o g cap ho hlv hlg
    obtain ⟨h1, hy, hfl⟩ := hlive i o ho hlv
    exact ⟨(h.own i o g cap h1 hlv hlg).1, .inr (cutW_mem.2 ⟨i, hy, o, cap, h1, hlv, by assumption, hlg⟩)⟩
  · intro i j o o' g cap cap' hne ho hlv ho' hlv' e1 e2
    exact h.inj i j o o' g cap cap' hne (hlive i o ho hlv).1 hlv (hlive j o' ho' hlv').1 hlv' e1 e2
  · exact fun i x hx => hx

theorem Inv.paste (h : Inv C Φ L H w) {Y : List Nat} {Φ' : Nat → Option Obj} {L' : Locs} {H1 : List AObj} {w' : World} (hm : More Φ Φ') (hL : ∀ (i : Nat) x, L[i]? = some x → L'[i]? = some x)
    (k : Inv ⟨w, Φ, cutW Y L H, L⟩ Φ' L' H1 w') : H.length ≤ H1.length ∧ Inv C Φ' L' (mergeF (fun i => Y.contains i) 0 H H1) w' := by
  have hlen : H.length ≤ H1.length := by
    rw [← h.len, ← k.len]
    cases hl : L.length with
    | zero => omega
    | succ n =>
      have := hL n _ (List.getElem?_eq_getElem (by omega))
      have := (List.getElem?_eq_some_iff.1 this).1
      omega
  refine ⟨hlen, ?_⟩
  have hW : ∀ b, b ∈ cutW Y L H → C.w0.heap.size ≤ b ∨ b ∈ C.W := fun b hb => by
    obtain ⟨j, _, o, cap, h1, h2, _, h3⟩ := cutW_mem.1 hb
    exact (h.own j o b cap h1 h2 h3).2
  have hget : ∀ (i : Nat) o, (mergeF (fun i => Y.contains i) 0 H H1)[i]? = some o → (H[i]? = some o ∧ ¬ (i ∈ Y ∧ o.flat = true)) ∨ (H1[i]? = some o ∧ ((∃ o', H[i]? = some o' ∧ i ∈ Y ∧ o'.flat = true) ∨ H[i]? = none)) := fun i o ho => by
    rw [mergeF_get hlen] at ho
    split at ho
    · rename_i o' ho'
      simp only [Nat.zero_add] at ho
      split at ho
      · rename_i hc; exact .inr ⟨ho, .inl ⟨o', ho', by simpa using hc.1, hc.2⟩⟩
      · rename_i hc
        simp only [Option.some.injEq] at ho; subst ho
        exact .inl ⟨ho', fun e => hc ⟨by simpa using e.1, e.2⟩⟩
    · rename_i ho'
      exact .inr ⟨ho, .inr ho'⟩
  have hout : ∀ (i : Nat) o g cap, H[i]? = some o → ¬ (i ∈ Y ∧ o.flat = true) → o.live = true → L[i]? = some (some (g, cap)) → g ∉ cutW Y L H := fun i o g cap ho hy hlv hl hm => by
    obtain ⟨j, hj, o', cap', h1, h2, h4, h3⟩ := cutW_mem.1 hm
    refine h.inj i j o o' g cap cap' (fun e => hy ?_) ho hlv h1 h2 hl h3
    subst e
    rw [ho] at h1; simp only [Option.some.injEq] at h1; subst h1
    exact ⟨hj, h4⟩
  have hloc : ∀ (i : Nat) o l, H[i]? = some o → L'[i]? = some l → L[i]? = some l := fun i o l ho hl => by
    have hi : i < L.length := by rw [h.len]; exact (List.getElem?_eq_some_iff.1 ho).1
    have := hL i _ (List.getElem?_eq_getElem hi)
    rw [hl] at this
    rw [List.getElem?_eq_getElem hi, this]
  obtain ⟨F, hF⟩ := h.deep
  obtain ⟨F1, hF1⟩ := k.deep
  have hFout : ∀ (i : Nat) o, H[i]? = some o → o.live = true → ∀ b ∈ F i, b ∉ cutW Y L H := fun i o ho hlv b hb hm => by
    obtain ⟨j, hj, o', cap', h1, h2, h4, h3⟩ := cutW_mem.1 hm
    exact (hF i o ho hlv).hd b hb j o' cap' h1 h2 h3
  have hΦn : ∀ b, b < w.heap.size → Φ b = none → b ∉ cutW Y L H → Φ' b = none := fun b hlt hb hn => by
    cases hΦ : Φ' b with
    | none => rfl
    | some ob =>
      rcases k.fresh b ob hΦ with e | e | e
      · have e : Φ b = some ob := e
        rw [hb] at e; cases e
      · have e : w.heap.size ≤ b := e
        omega
      · exact absurd e hn
  refine ⟨?_, ?_⟩
  rotate_left
  · have num : ∀ (i : Nat) o, H[i]? = some o → ∀ o1, (mergeF (fun i => Y.contains i) 0 H H1)[i]? = some o1 → (if (∃ o', H[i]? = some o' ∧ ¬ (i ∈ Y ∧ o'.flat = true)) then True else False) = (¬ (i ∈ Y ∧ o.flat = true)) := fun i o ho o1 _ => by
      by_cases hc : i ∈ Y ∧ o.flat = true
      · rw [if_neg (fun ⟨o', e, hn⟩ => by rw [ho] at e; simp only [Option.some.injEq] at e; subst e; exact hn hc)]
        simp [hc]
      · rw [if_pos ⟨o, ho, hc⟩]; simp only [hc, not_false_eq_true]
    have sel : ∃ G : Nat → List Nat, (∀ (i : Nat) o, H[i]? = some o → ¬ (i ∈ Y ∧ o.flat = true) → G i = F i) ∧ (∀ (i : Nat), ((∃ o', H[i]? = some o' ∧ i ∈ Y ∧ o'.flat = true) ∨ H[i]? = none) → G i = F1 i) := by
      refine ⟨fun i => match H[i]? with
        | some o => if decide (i ∈ Y) = true ∧ o.flat = true then F1 i else F i
        | none => F1 i, fun i o ho hn => ?_, fun i hc => ?_⟩
      · simp only [ho]
        rw [if_neg (fun e => hn ⟨by simpa using e.1, e.2⟩)]
      · rcases hc with ⟨o', e, hy, hf⟩ | e
        · simp only [e]; rw [if_pos ⟨by simpa using hy, hf⟩]
        · simp only [e]
    obtain ⟨G, hG1, hG2⟩ := sel
    refine ⟨G, fun i o ho hlv => ?_⟩
    rcases hget i o ho with ⟨h1, hn⟩ | ⟨h1, hc⟩
    · have kk := hF i o h1 hlv
      have e0 := hG1 i o h1 hn
      refine ⟨?_, ?_, ?_, ?_, ?_, ?_, ?_⟩ <;> rw [e0]
      · obtain ⟨l, a1, a2⟩ := kk.is
        refine ⟨l, hL _ _ a1, (a2.keep (fun b hb => k.keep b (kk.lt b hb) (hFout i o h1 hlv b hb)) fun g cap hg hlt => k.keep g hlt ?_).more hm hL⟩
        subst hg
        exact hout i o g cap h1 hn hlv a1
      · exact kk.nd
      · exact fun b hb => Nat.lt_of_lt_of_le (kk.lt b hb) k.size
      · exact fun b hb => hΦn b (kk.lt b hb) (kk.fr b hb) (hFout i o h1 hlv b hb)
      · exact kk.old
      · intro b hb j o' cap ho' hlv' e
        rcases hget j o' ho' with ⟨h2, hn2⟩ | ⟨h2, hc2⟩
        · exact kk.hd b hb j o' cap h2 hlv' (hloc j o' _ h2 e)
        · rcases (k.own j o' b cap h2 hlv' e).2 with e2 | e2
          · have e2 : w.heap.size ≤ b := e2
            have := kk.lt b hb; omega
          · exact hFout i o h1 hlv b hb e2
      · intro j o' hne ho' hlv' b hb hb2
        rcases hget j o' ho' with ⟨h2, hn2⟩ | ⟨h2, hc2⟩
        · rw [hG1 j o' h2 hn2] at hb2
          exact kk.dj j o' hne h2 hlv' b hb hb2
        · rw [hG2 j hc2] at hb2
          rcases (hF1 j o' h2 hlv').old b hb2 with e2 | e2
          · have e2 : w.heap.size ≤ b := e2
            have := kk.lt b hb; omega
          · exact hFout i o h1 hlv b hb e2
    · have kk := hF1 i o h1 hlv
      have e0 := hG2 i hc
      refine ⟨?_, ?_, ?_, ?_, ?_, ?_, ?_⟩ <;> rw [e0]
      · exact kk.is
      · exact kk.nd
      · exact kk.lt
      · exact kk.fr
      · intro b hb
        rcases kk.old b hb with e | e
        · exact .inl (Nat.le_trans h.size e)
        · exact hW b e
      · intro b hb j o' cap ho' hlv' e
        rcases hget j o' ho' with ⟨h2, hn2⟩ | ⟨h2, hc2⟩
        · have e' := hloc j o' _ h2 e
          rcases kk.old b hb with e2 | e2
          · have e2 : w.heap.size ≤ b := e2
            have := h.lt h2 hlv' e'; omega
          · exact hout j o' b cap h2 hn2 hlv' e' e2
        · exact kk.hd b hb j o' cap h2 hlv' e
      · intro j o' hne ho' hlv' b hb hb2
        rcases hget j o' ho' with ⟨h2, hn2⟩ | ⟨h2, hc2⟩
        · rw [hG1 j o' h2 hn2] at hb2
          rcases kk.old b hb with e2 | e2
          · have e2 : w.heap.size ≤ b := e2
            have := (hF j o' h2 hlv').lt b hb2; omega
          · exact hFout j o' h2 hlv' b hb2 e2
        · rw [hG2 j hc2] at hb2
          exact kk.dj j o' hne h2 hlv' b hb hb2
  constructor
  · rw [mergeF_length hlen]; exact k.len
  · exact k.frz
  · exact h.base.trans k.base
  · exact k.glob
  · intro b o hb
    rcases k.fresh b o hb with h1 | h1 | h1
    · exact h.fresh b o h1
    · exact .inr (.inl (Nat.le_trans h.size h1))
    · exact .inr (hW b h1)
  · exact k.os.trans h.os
  · exact k.tape.trans h.tape
  · exact k.output.trans h.output
  · exact Nat.le_trans h.size k.size
  · intro b hb hbW
    have : b ∉ cutW Y L H := fun hm => by
      rcases hW b hm with h1 | h1
      · omega
      · exact hbW h1
    rw [k.keep b (Nat.lt_of_lt_of_le hb h.size) this]
    exact h.keep b hb hbW
  · intro i o ho
    rcases hget i o ho with ⟨h1, hy⟩ | ⟨h1, _⟩
    · obtain ⟨l, hl, hk⟩ := h.obj i o h1
      refine ⟨l, hL i l hl, (hk.keep (w' := w') fun g cap hlv hlg hlt => ?_).more hm hL⟩
      subst hlg
      exact k.keep g hlt (hout i o g cap h1 hy hlv hl)
    · exact k.obj i o h1
  · intro i o g cap ho hlv hlg
    rcases hget i o ho with ⟨h1, hy⟩ | ⟨h1, _⟩
    · have hlg' := hloc i o _ h1 hlg
      obtain ⟨a1, a2⟩ := h.own i o g cap h1 hlv hlg'
      exact ⟨hΦn g (h.lt h1 hlv hlg') a1 (hout i o g cap h1 hy hlv hlg'), a2⟩
    · obtain ⟨a1, a2⟩ := k.own i o g cap h1 hlv hlg
      refine ⟨a1, ?_⟩
      rcases a2 with a2 | a2
      · exact .inl (Nat.le_trans h.size a2)
      · exact hW g a2
  · intro i j o o' g cap cap' hne ho hlv ho' hlv' e1 e2
    rcases hget i o ho with ⟨h1, hy⟩ | ⟨h1, _⟩
    · have e1' := hloc i o _ h1 e1
      rcases hget j o' ho' with ⟨h2, hy'⟩ | ⟨h2, _⟩
      · exact h.inj i j o o' g cap cap' hne h1 hlv h2 hlv' e1' (hloc j o' _ h2 e2)
      · rcases (k.own j o' g cap' h2 hlv' e2).2 with e | e
        · have := h.lt h1 hlv e1'
          have e : w.heap.size ≤ g := e
          omega
        · exact hout i o g cap h1 hy hlv e1' e
    · rcases hget j o' ho' with ⟨h2, hy'⟩ | ⟨h2, _⟩
      · have e2' := hloc j o' _ h2 e2
        rcases (k.own i o g cap h1 hlv e1).2 with e | e
        · have := h.lt h2 hlv' e2'
          have e : w.heap.size ≤ g := e
          omega
        · exact hout j o' g cap' h2 hy' hlv' e2' e
      · exact k.inj i j o o' g cap cap' hne h1 hlv h2 hlv' e1 e2
  · exact fun i x hx => hL i x (h.pre i x hx)
end
end Go.Proofs.Ythojapklndjidaa
