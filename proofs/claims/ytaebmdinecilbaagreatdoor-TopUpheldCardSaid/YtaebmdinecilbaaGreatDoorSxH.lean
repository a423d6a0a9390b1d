/- A part of a symbolic evaluator over the model and of the proof that it is right: 'SxH'. It holds for every program; no condition. -/
import Derived.Test.YtaebmdinecilbaaGreatDoorSxG
namespace Go.Sx

/-! ## What an operation comes to -/
inductive OpR where
  | val (v : V) (st : St)
  | skip (st : St)
  | call (f : Nat) (args : List V)
  | yield (id : Nat) (args : List V)
  | defer (d : AD)
  | recover
  | panic (v : V)
  | ask (c : Tm)
  | oneOf (l : List (V × St))
  | bad (n : Nat)

/-- of an operation that hands back a value -/
def VOk (P : Program) (ρ : Env) (st : St) (w : World) (s : Sem Value) : OpR → Prop
  | .val v st' => ∃ ρ' w', Step ρ st w ρ' st' w' ∧ v.wf st'.nx ∧ s.run P w = .ok (v.den ρ') w'
  | .oneOf l => ∃ v st' ρ' w', (v, st') ∈ l ∧ Step ρ st w ρ' st' w' ∧ v.wf st'.nx ∧ s.run P w = .ok (v.den ρ') w'
  | .panic v => v.wf st.nx ∧ s.run P w = .halt (.panic (v.den ρ)) w
  | .ask c => c.wf st.nx
  | .bad _ => True
  | _ => False
def UOk (P : Program) (ρ : Env) (st : St) (w : World) (s : Sem Unit) : OpR → Prop
  | .skip st' => ∃ ρ' w', Step ρ st w ρ' st' w' ∧ s.run P w = .ok () w'
  | .ask c => c.wf st.nx
  | .bad _ => True
  | _ => False
/-- of any operation -/
def OpOk (P : Program) (ρ : Env) (st : St) (w : World) (s : Sem Next) : OpR → Prop
  | .val v st' => ∃ ρ' w', Step ρ st w ρ' st' w' ∧ v.wf st'.nx ∧ s.run P w = .ok (.value (v.den ρ')) w'
  | .oneOf l => ∃ v st' ρ' w', (v, st') ∈ l ∧ Step ρ st w ρ' st' w' ∧ v.wf st'.nx ∧ s.run P w = .ok (.value (v.den ρ')) w'
  | .skip st' => ∃ ρ' w', Step ρ st w ρ' st' w' ∧ s.run P w = .ok .skip w'
  | .call f args => V.wfL st.nx args ∧ s.run P w = .ok (.enter f (V.denL ρ args).toArray) w
  | .yield id args => id < st.nx ∧ V.wfL st.nx args ∧ s.run P w = (Instr.yield (ρ.b id) (V.denL ρ args).toArray).run P w
  | .defer d => d.wf st.nx ∧ s.run P w = .ok (.defer (d.den ρ)) w
  | .recover => s.run P w = .ok .recover w
  | .panic v => v.wf st.nx ∧ s.run P w = .halt (.panic (v.den ρ)) w
  | .ask c => c.wf st.nx
  | .bad _ => True

section
variable {P : Program} {ρ : Env} {st : St} {w : World}

theorem OpOk.of_v {s : Sem Value} {r : OpR} (h : VOk P ρ st w s r) : OpOk P ρ st w (do let x ← s; pure (Next.value x)) r := by
  cases r <;> simp only [VOk, OpOk] at h ⊢
  · obtain ⟨ρ', w', h1, h2, h3⟩ := h
    exact ⟨ρ', w', h1, h2, by rw [Sem.run_bind, h3]; rfl⟩
  · exact ⟨h.1, by rw [Sem.run_bind, h.2]; rfl⟩
  · exact h
  · obtain ⟨v, st', ρ', w', h0, h1, h2, h3⟩ := h
    exact ⟨v, st', ρ', w', h0, h1, h2, by rw [Sem.run_bind, h3]; rfl⟩
theorem OpOk.of_u {s : Sem Unit} {r : OpR} (h : UOk P ρ st w s r) : OpOk P ρ st w (do s; pure Next.skip) r := by
  cases r <;> simp only [UOk, OpOk] at h ⊢
  · obtain ⟨ρ', w', h1, h3⟩ := h
    exact ⟨ρ', w', h1, by rw [Sem.run_bind, h3]; rfl⟩
  · exact h

theorem VOk.same {s : Sem Value} {v : V} (hR : Real ρ st w) (hv : v.wf st.nx) (h : s.run P w = .ok (v.den ρ) w) : VOk P ρ st w s (.val v st) :=
  ⟨ρ, w, Step.refl hR, hv, h⟩

/-- a new row of cells -/
def newCells (st : St) (l : List V) : St := { st with h := st.h.set st.nx (.cells true l (some (.lit l.length))), nx := st.nx + 1 }
theorem newCells_step (hR : Real ρ st w) {l : List V} (hl : V.wfL st.nx l) (ty : TypeId) (arr : Array Value) (harr : arr = (V.denL ρ l).toArray) :
    Step ρ st w (ρ.setB st.nx w.heap.size 0) (newCells st l) (w.alloc (.cells arr ty)) := by
  subst harr
  refine Step.alloc hR ⟨?_, ?_, ?_, fun _ => rfl⟩ ⟨V.wfL_mono (Nat.le_succ _) hl, ?_⟩
  · intro i v hi hv
    have hw := (V.wfL_iff _ _).1 hl v (mem_of_getElem? hi)
    rw [← V.den_agree Env.agree_setB hw]
    simp [Env.setB, V.denL_eq, hi]
  · simp [Env.setB, V.denL_eq]
  · intro t ht; simp at ht; subst ht; simp [Env.setB, V.denL_eq]
  · intro t ht; simp at ht; subst ht; trivial
theorem newRow_run (ty : TypeId) (arr : Array Value) : (newRow ty arr).run P w = .ok ⟨w.heap.size, 0, none⟩ (w.alloc (.cells arr ty)) := by
  simp [newRow]

def doAlloc (C : Ctx) (st : St) (ty : Nat) : OpR :=
  match C.ty.get ty with
  | some i => match i.zero with
    | some z => match z.cellsL with
      | some l => .val (.ptr st.nx 0) (newCells st l)
      | none => .bad 1
    | none => .bad 2
  | none => .bad 3
theorem ptr_new_den {ρ : Env} {n b : Nat} : (V.ptr n 0).den (ρ.setB n b 0) = .pointer (some ⟨b, 0, none⟩) := by simp [V.den, Env.setB]
theorem doAlloc_ok {C : Ctx} (hC : C.Ok P) (hR : Real ρ st w) (ty : Nat) : VOk P ρ st w (Instr.alloc ty true (.tuple #[])) (doAlloc C st ty) := by
  unfold doAlloc
  split
  · rename_i i hi
    have hT := hC.get hi
    split
    · rename_i z hz
      split
      · rename_i l hl
        obtain ⟨h1, h2, h3⟩ := V.cellsL_spec hl
        have hzz := (hT.run_zero w hz).2 ρ st.nx
        refine ⟨_, _, newCells_step hR (h2 _ hzz.1) ty _ rfl, Nat.lt_succ_self _, ?_⟩
        simp only [Instr.alloc, Sem.run_bind, hzz.2, Result.andThen_ok, newVar, h3 ρ, newRow_run]
        rw [ptr_new_den]; rfl
      · trivial
    · trivial
  · trivial

def doBox (st : St) (v : V) : OpR :=
  match v.cellsL with
  | some l => .val (.ptr st.nx 0) (newCells st l)
  | none => .bad 4
theorem doBox_ok (hR : Real ρ st w) (ty : Nat) {v : V} (hv : v.wf st.nx) : VOk P ρ st w (Instr.box ty (v.den ρ)) (doBox st v) := by
  unfold doBox
  split
  · rename_i l hl
    obtain ⟨h1, h2, h3⟩ := V.cellsL_spec hl
    refine ⟨_, _, newCells_step hR (h2 _ hv) ty _ rfl, Nat.lt_succ_self _, ?_⟩
    simp only [Instr.box, Sem.run_bind, newVar, h3 ρ, newRow_run, Result.andThen_ok]
    rw [ptr_new_den]; rfl
  · trivial

def doLoad (C : Ctx) (st : St) (ty : Nat) (v : V) : OpR :=
  match v with
  | .ptr id off => match C.ty.get ty with
    | some i => match rd st.h id off i.size i.agg with
      | some x => .val x st
      | none => .bad 5
    | none => .bad 6
  | _ => .bad 7
theorem run_loadVar {C : Ctx} (hC : C.Ok P) (hR : Real ρ st w) {ty : Nat} {i : TyI} (hi : C.ty.get ty = some i) {id off : Nat} {x : V} (h : rd st.h id off i.size i.agg = some x) :
    x.wf st.nx ∧ (loadVar ty ⟨ρ.b id, ρ.o id + off, none⟩).run P w = .ok (x.den ρ) w := by
  have hT := hC.get hi
  obtain ⟨h1, h2⟩ := run_rd (P := P) hR h
  refine ⟨h1, ?_⟩
  rw [loadVar, Sem.run_bind, hT.run_agg, Result.andThen_ok]
  cases ha : i.agg
  · simp only [ha, Bool.false_eq_true, if_false] at h2 ⊢; exact h2
  · simp only [ha, if_true] at h2 ⊢
    rw [Sem.run_bind, hT.run_size, Result.andThen_ok, Sem.run_bind]
    exact h2
theorem doLoad_ok {C : Ctx} (hC : C.Ok P) (hR : Real ρ st w) (ty : Nat) (v : V) : VOk P ρ st w (Instr.loadAt ty (v.den ρ)) (doLoad C st ty v) := by
  unfold doLoad
  split
  · rename_i id off
    split
    · rename_i i hi
      split
      · rename_i x hx
        obtain ⟨h1, h2⟩ := run_loadVar hC hR hi hx
        refine VOk.same hR h1 ?_
        simp only [Instr.loadAt, V.den, Instr.sureAddr, pure_bind]
        exact h2
      · trivial
    · trivial
  · trivial

def doStore (C : Ctx) (st : St) (ty : Nat) (a x : V) : OpR :=
  match a with
  | .ptr id off => match C.ty.get ty with
    | some i => match x.cellsL with
      | some l => bif Nat.beq l.length i.size then (match wr st.h id off l with
        | some h => .skip { st with h := h }
        | none => .bad 8) else .bad 9
      | none => .bad 10
    | none => .bad 11
  | _ => .bad 12
theorem run_storeVar {C : Ctx} (hC : C.Ok P) (hR : Real ρ st w) {ty : Nat} {i : TyI} (hi : C.ty.get ty = some i) {id off : Nat} {x : V} (hx : x.wf st.nx) {l : List V} (hl : x.cellsL = some l)
    (hlen : l.length = i.size) {h' : Tr Ob} (hw : wr st.h id off l = some h') :
    ∃ w', Step ρ st w ρ { st with h := h' } w' ∧ (storeVar ty ⟨ρ.b id, ρ.o id + off, none⟩ (x.den ρ)).run P w = .ok () w' := by
  have hT := hC.get hi
  obtain ⟨h1, h2, h3⟩ := V.cellsL_spec hl
  obtain ⟨w', h4, h5⟩ := run_wr (P := P) hR hw h1 (h2 _ hx)
  refine ⟨w', h4, ?_⟩
  rw [storeVar, Sem.run_bind, hT.run_size, Result.andThen_ok, h3 ρ]
  have : (V.denL ρ l).toArray.size = i.size := by simp [V.denL_eq, hlen]
  simp only [this, ne_eq, not_true_eq_false, if_false]
  exact h5
theorem doStore_ok {C : Ctx} (hC : C.Ok P) (hR : Real ρ st w) (ty : Nat) (a : V) {x : V} (hx : x.wf st.nx) : UOk P ρ st w (Instr.storeAt ty (a.den ρ) (x.den ρ)) (doStore C st ty a x) := by
  unfold doStore
  split
  · rename_i id off
    split
    · rename_i i hi
      split
      · rename_i l hl
        cases hb : Nat.beq l.length i.size
        · trivial
        · simp only [cond_true]
          split
          · rename_i h' hw
            obtain ⟨w', h1, h2⟩ := run_storeVar hC hR hi hx hl (Nat.eq_of_beq_eq_true hb) hw
            refine ⟨ρ, w', h1, ?_⟩
            simp only [Instr.storeAt, V.den, Instr.sureAddr, pure_bind]
            exact h2
          · trivial
      · trivial
    · trivial
  · trivial

def nthF : List FI → Nat → Option FI
  | [], _ => none
  | x :: _, 0 => some x
  | _ :: l, n + 1 => nthF l n
theorem nthF_eq : ∀ (l : List FI) (n : Nat), nthF l n = l[n]?
  | [], _ => rfl
  | _ :: _, 0 => rfl
  | _ :: l, n + 1 => by simp [nthF, nthF_eq l n]

def doFieldAddr (C : Ctx) (st : St) (s : Nat) (x : V) (f : Nat) : OpR :=
  match x with
  | .ptr id off => match C.ty.get s with
    | some i => match nthF i.flds f with
      | some y => bif Nat.beq y.size 0 then .bad 13 else .val (.ptr id (Nat.add off y.off)) st
      | none => .bad 14
    | none => .bad 15
  | _ => .bad 16
theorem doFieldAddr_ok {C : Ctx} (hC : C.Ok P) (hR : Real ρ st w) (s : Nat) {x : V} (hx : x.wf st.nx) (f : Nat) : VOk P ρ st w (Instr.fieldAt s (x.den ρ) f) (doFieldAddr C st s x f) := by
  unfold doFieldAddr
  split
  · rename_i id off
    split
    · rename_i i hi
      have hT := hC.get hi
      split
      · rename_i y hy
        rw [nthF_eq] at hy
        obtain ⟨fs, fl, h1, h2, h3⟩ := hT.fld f y hy
        obtain ⟨_, e2, _, _⟩ := mkFI_spec h3
        cases hb : Nat.beq y.size 0
        · have hne : y.size ≠ 0 := by intro e; rw [e] at hb; simp at hb
          refine VOk.same hR hx ?_
          simp only [Instr.fieldAt, Sem.run_bind, hT.run_und, Result.andThen_ok, h1]
          have hg : (⟨fs⟩ : Array Field)[f]? = some fl := by simpa using h2
          simp only [hg, Sem.run_bind, V.den, Instr.sureAddr, Sem.run_pure, Result.andThen_ok, fieldPlace, run_size_fi h3, hne, if_false, addr_add]
          rw [← e2, Nat.add_assoc]; rfl
        · trivial
      · trivial
    · trivial
  · trivial

def partL (l : List V) (y : FI) (off : Nat) : Option V :=
  bif y.agg then (match takeN y.size (dropN off l) with | some r => some (.agg r) | none => none)
  else match dropN off l with
    | v :: _ => some v
    | [] => none
theorem partL_spec {l : List V} {y : FI} {off : Nat} {v : V} (h : partL l y off = some v) {n : Nat} (hl : V.wfL n l) {ty o : Nat} {b : Bool} (hy : mkFI P ty o b = some y) :
    v.wf n ∧ (part ty (V.denL ρ l).toArray off).run P w = .ok (v.den ρ) w := by
  unfold partL at h
  simp only [dropN_eq] at h
  cases ha : y.agg
  · simp only [ha, cond_false] at h
    split at h
    · rename_i x r hx
      simp at h; subst h
      have hi : l[off]? = some x := by
        have := congrArg (fun l => l[0]?) hx
        simpa using this
      refine ⟨(V.wfL_iff _ _).1 hl x (mem_of_getElem? hi), ?_⟩
      simp only [part, Sem.run_bind, run_agg_fi hy, Result.andThen_ok, ha, Bool.false_eq_true, if_false]
      have : (V.denL ρ l).toArray[off]? = some (x.den ρ) := by simp [V.denL_eq, hi]
      rw [this]; rfl
    · simp at h
  · simp only [ha, cond_true] at h
    split at h
    · rename_i r hr
      simp at h; subst h
      obtain ⟨h1, h2, h3⟩ := takeN_spec hr
      have hrl : r = (l.drop off).take y.size := by
        apply List.ext_getElem?
        intro i
        rcases Nat.lt_or_ge i r.length with hi | hi
        · have h4 := h3 i r[i] (List.getElem?_eq_getElem hi)
          rw [List.getElem?_eq_getElem hi, List.getElem?_take_of_lt (by omega), h4]
        · rw [List.getElem?_eq_none hi, List.getElem?_eq_none]
          simp; omega
      refine ⟨(V.wfL_iff _ _).2 fun x hx => ?_, ?_⟩
      · rw [hrl] at hx
        exact (V.wfL_iff _ _).1 hl x (List.mem_of_mem_drop (List.mem_of_mem_take hx))
      · simp only [part, Sem.run_bind, run_agg_fi hy, Result.andThen_ok, ha, if_true, run_size_fi hy, Sem.run_pure]
        simp only [V.den]
        congr 1
        congr 1
        rw [hrl]
        simp only [V.denL_eq]
        apply Array.ext'
        simp [List.map_take, List.map_drop]
    · simp at h

def doField (C : Ctx) (st : St) (s : Nat) (x : V) (f : Nat) : OpR :=
  match x with
  | .agg l => match C.ty.get s with
    | some i => match nthF i.flds f with
      | some y => match partL l y y.off with
        | some v => .val v st
        | none => .bad 17
      | none => .bad 18
    | none => .bad 19
  | _ => .bad 20
theorem doField_ok {C : Ctx} (hC : C.Ok P) (hR : Real ρ st w) (s : Nat) {x : V} (hx : x.wf st.nx) (f : Nat) : VOk P ρ st w (Instr.field s (x.den ρ) f) (doField C st s x f) := by
  unfold doField
  split
  · rename_i l
    split
    · rename_i i hi
      have hT := hC.get hi
      split
      · rename_i y hy
        rw [nthF_eq] at hy
        obtain ⟨fs, fl, h1, h2, h3⟩ := hT.fld f y hy
        obtain ⟨_, e2, _, _⟩ := mkFI_spec h3
        split
        · rename_i v hv
          obtain ⟨g1, g2⟩ := partL_spec (P := P) (ρ := ρ) (w := w) hv hx h3
          refine VOk.same hR g1 ?_
          have hg : (⟨fs⟩ : Array Field)[f]? = some fl := by simpa using h2
          simp only [Instr.field, Sem.run_bind, hT.run_und, Result.andThen_ok, h1, hg, V.den, asAgg, Sem.run_pure]
          rw [← e2]; exact g2
        · trivial
      · trivial
    · trivial
  · trivial
end
end Go.Sx
