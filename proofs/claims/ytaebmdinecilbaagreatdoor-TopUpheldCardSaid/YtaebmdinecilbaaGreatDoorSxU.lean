/- A part of a symbolic evaluator over the model and of the proof that it is right: 'SxU'. It holds for every program; no condition. -/
import Derived.Test.YtaebmdinecilbaaGreatDoorSxO
import Derived.AtR
import Derived.Orders
namespace Go.Sx

/-! ## What a function hands back -/
def resTup : List V → V
  | [v] => v
  | l => .tuple l
def doResults (C : Ctx) (st : St) (t : Tr V) : List ResultVar → Option (List V)
  | [] => some []
  | .tmp k :: l => match t.get k, doResults C st t l with
    | some v, some r => some (v :: r)
    | _, _ => none
  | .cell a ty :: l => match t.get a with
    | some (.ptr id off) => match C.ty.get ty with
      | some i => match rd st.h id off i.size i.agg, doResults C st t l with
        | some v, some r => some (v :: r)
        | _, _ => none
      | none => none
    | _ => none

section
variable {P : Program} {ρ : Env} {st : St} {w : World}

theorem getD_of {a : Array Value} {k : Nat} {v : Value} (h : a[k]? = some v) : a.getD k undef = v := by
  rw [Array.getD_eq_getD_getElem?, h]; rfl

theorem doResults_list {C : Ctx} (hC : C.Ok P) (hR : Real ρ st w) {t : Tr V} {tmps : Array Value} (hT : TRel ρ st.nx t tmps) : ∀ (rs : List ResultVar) (l : List V), doResults C st t rs = some l →
    V.wfL st.nx l ∧ (rs.mapM (fun x => match x with
      | ResultVar.tmp t => (pure (tmps.getD t undef) : Sem Value)
      | ResultVar.cell a t => do loadVar t (← asAddr (tmps.getD a undef)))).run P w = .ok (V.denL ρ l) w
  | [], l, h => by simp [doResults] at h; subst h; exact ⟨trivial, rfl⟩
  | .tmp k :: rs, l, h => by
    simp only [doResults] at h
    split at h
    · rename_i v r hv hr
      simp at h; subst h
      obtain ⟨h1, h2⟩ := doResults_list hC hR hT rs r hr
      obtain ⟨h3, h4⟩ := hT k v hv
      refine ⟨⟨h4, h1⟩, ?_⟩
      rw [List.mapM_cons, Sem.run_bind]
      simp only [getD_of h3, Sem.run_pure, Result.andThen_ok, Sem.run_bind, h2]
      rfl
    · simp at h
  | .cell a ty :: rs, l, h => by
    simp only [doResults] at h
    split at h
    · rename_i id off ha
      split at h
      · rename_i i hi
        split at h
        · rename_i v r hv hr
          simp at h; subst h
          obtain ⟨h1, h2⟩ := doResults_list hC hR hT rs r hr
          obtain ⟨h3, h4⟩ := hT a _ ha
          obtain ⟨h5, h6⟩ := run_loadVar hC hR hi hv
          refine ⟨⟨h5, h1⟩, ?_⟩
          rw [List.mapM_cons, Sem.run_bind]
          have ha' : (asAddr (tmps.getD a undef)).run P w = .ok ⟨ρ.b id, ρ.o id + off, none⟩ w := by rw [getD_of h3]; rfl
          simp only [Sem.run_bind, ha', Result.andThen_ok, h6, h2]
          rfl
        · simp at h
      · simp at h
    · simp at h

theorem resTup_den (ρ : Env) (l : List V) : (resTup l).den ρ = if h : ((V.denL ρ l).toArray).size = 1 then ((V.denL ρ l).toArray)[0] else .tuple (V.denL ρ l).toArray := by
  match l with
  | [] => rfl
  | [v] => rfl
  | v :: u :: l => rfl
theorem resTup_wf {n : Nat} {l : List V} (h : V.wfL n l) : (resTup l).wf n := by
  match l, h with
  | [], h => exact h
  | [v], h => exact h.1
  | v :: u :: l, h => exact h

theorem doResults_run {C : Ctx} (hC : C.Ok P) (hR : Real ρ st w) {t : Tr V} {tmps : Array Value} (hT : TRel ρ st.nx t tmps) {fn : Func} {rs : List ResultVar} (hrs : fn.results.toList = rs) {l : List V} (h : doResults C st t rs = some l) :
    (resTup l).wf st.nx ∧ (results fn tmps).run P w = .ok ((resTup l).den ρ) w := by
  obtain ⟨h1, h2⟩ := doResults_list hC hR hT rs l h
  refine ⟨resTup_wf h1, ?_⟩
  subst hrs
  unfold results
  rw [Array.mapM_eq_mapM_toList, Sem.run_bind]
  rw [show (∀ (x : Sem (List Value)), (List.toArray <$> x).run P w = (x.run P w).andThen fun a w' => .ok a.toArray w') from fun x => by
    rw [← bind_pure_comp, Sem.run_bind]; rfl]
  refine (congrArg (fun r => (r.andThen (fun a w' => Result.ok a.toArray w')).andThen fun (a : Array Value) w' => Sem.run P (pure (if h : a.size = 1 then a[0] else Value.tuple a)) w') h2).trans ?_
  rw [resTup_den]
  rfl
end
end Go.Sx
