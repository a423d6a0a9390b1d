/- The steps laid out for the kernel answer as the evaluator does. -/
import Derived.Test.YtaebmdinecilbaaGreatDoorSxQr
namespace Go.Sx
open Go
set_option linter.unusedVariables false
set_option maxRecDepth 10000

theorem stepq_eq (C : Ctx) (f : Nat) (j : Job) (st : St) : stepq C (ev C f) j st = ev C (f + 1) j st := by
  cases j with
  | call k g args =>
    show qCall k g args C (ev C f) st = _
    rw [ev.eq_def]; dsimp only
    simp only [qCall]
    cases summ C k g args st with
    | some p => rfl
    | none =>
      dsimp only
      cases C.fn.get g <;> rfl
  | unwind ds =>
    show qUnwind ds C (ev C f) st = _
    rw [ev.eq_def]; dsimp only
    cases ds with
    | nil => rfl
    | cons d ds =>
      cases d with
      | collected id => rfl
      | fn g caps args => cases g with
        | fn g => cases g <;> rfl
        | yield id => rfl
  | frame fc todo fr =>
    show qFrame fc todo fr C (ev C f) st = _
    rw [ev.eq_def]; dsimp only
    cases todo with
    | nil => rfl
    | cons x k =>
      simp only [qFrame]
      cases x with
      | code c =>
        simp only [qItem]
        cases c with
        | region id ops fixed => cases fixed <;> rfl
        | cond x a b => simp only [qCode, opndq_eq]; rfl
        | rangeFunc g ps assign body => simp only [qCode, opndq_eq]; rfl
        | _ => rfl
      | _ => rfl
  | ops fc all l fr =>
    show qOps fc all l fr C (ev C f) st = _
    rw [ev.eq_def]; dsimp only
    cases l with
    | nil => rfl
    | cons o l =>
      simp only [qOps, wantedq_eq]
      cases wanted st fr.t all o with
      | yes =>
        simp only [qWant, evOpq_eq]
        cases evOp C fr.t st o with
        | call g args =>
          refine congrArg (Res.bind _) (funext fun r => ?_)
          simp only [qRet, setDstq_eq]; rfl
        | oneOf vs =>
          refine congrArg (fun g => oneRes st.nx g vs) (funext fun x => ?_)
          simp only [qOne, setDstq_eq]; rfl
        | yield id args =>
          simp only [qOpR, qYield]
          cases getLp st id with
          | none => rfl
          | some lp =>
            dsimp only
            cases setParams lp.sz lp.params.toList args lp.t with
            | none => rfl
            | some t =>
              refine congrArg (Res.bind _) (funext fun r => ?_)
              simp only [qYield1, setDstq_eq]; rfl
        | val v st1 => simp only [qOpR, setDstq_eq]; rfl
        | skip st1 => simp only [qOpR, setDstq_eq]; rfl
        | defer d => simp only [qOpR, qDefer, setDstq_eq]; rfl
        | recover => simp only [qOpR, qRecover, setDstq_eq]; rfl
        | _ => rfl
      | no => simp only [qWant, setDstq_eq]; rfl
      | _ => rfl
  | plan fc all acts fr =>
    show qPlan fc all acts fr C (ev C f) st = _
    rw [ev.eq_def]; dsimp only
    cases acts with
    | nil => rfl
    | cons a l =>
      cases a with
      | n i =>
        simp only [qPlan]
        cases all[i]? with
        | none => rfl
        | some o =>
          simp only [qN, wantedq_eq]
          cases wanted st fr.t all o with
          | yes =>
            simp only [qN1, evOpq_eq, plainq_eq]
            cases plainKind o with
            | false => rfl
            | true =>
              dsimp only [cond]
              cases evOp C fr.t st o with
              | val v st1 => simp only [qN2, setDstq_eq]; rfl
              | _ => rfl
          | no => simp only [qN1, setDstq_eq]; rfl
          | _ => rfl
      | r i =>
        simp only [qPlan]
        cases all[i]? with
        | none => rfl
        | some o =>
          simp only [qR, wantedq_eq]
          cases wanted st fr.t all o with
          | yes =>
            simp only [qR1, evOpq_eq, plainq_eq]
            cases plainKind o with
            | false => rfl
            | true =>
              dsimp only [cond]
              cases evOp C fr.t st o <;> rfl
          | _ => rfl
      | g i =>
        simp only [qPlan]
        cases all[i]? with
        | none => rfl
        | some o =>
          simp only [qG, evOpq_eq]
          cases evOp C fr.t (iso st) o <;> rfl
      | b i =>
        simp only [qPlan]
        cases all[i]? with
        | none => rfl
        | some o =>
          simp only [qB, evOpq_eq]
          cases evOp C fr.t (iso st) o with
          | val v st1 => simp only [qB1, setDstq_eq]; rfl
          | _ => rfl
      | _ => rfl
theorem evq_eq (C : Ctx) : ∀ n, evq C n = ev C n
  | 0 => by funext j st; rw [ev.eq_def]; rfl
  | n + 1 => by
    funext j st
    show stepq C (evq C n) j st = _
    rw [evq_eq C n, stepq_eq]
end Go.Sx
