/- A part of a symbolic evaluator over the model and of the proof that it is right: 'SxO'. It holds for every program; no condition. -/
import Derived.Test.YtaebmdinecilbaaGreatDoorSxT
namespace Go.Sx

section
variable {P : Program} {ρ : Env} {st : St} {w : World}

/-! ## Operands -/
def opnd (t : Tr V) : Operand → Option V
  | .tmp k => t.get k
  | .const v => ofVal v
  | .global _ => none
  | .func f => some (.func (.fn (.func f)) [] [])
def opndL (t : Tr V) : List Operand → Option (List V)
  | [] => some []
  | x :: l => match opnd t x with
    | some v => match opndL t l with
      | some r => some (v :: r)
      | none => none
    | none => none
def opndO (t : Tr V) : Option Operand → Option (Option V)
  | none => some none
  | some x => match opnd t x with
    | some v => some (some v)
    | none => none
def opndP (t : Tr V) : List (Nat × Operand) → Option (List (Nat × V))
  | [] => some []
  | (i, x) :: l => match opnd t x with
    | some v => match opndP t l with
      | some r => some ((i, v) :: r)
      | none => none
    | none => none

def EvRel (ρ : Env) (n : Nat) (t : Tr V) (ev : Operand → Value) : Prop := ∀ x v, opnd t x = some v → ev x = v.den ρ ∧ v.wf n

def evalT (tmps : Array Value) : Operand → Value
  | .tmp t => tmps.getD t undef
  | .const v => v
  | .global g => .pointer (some ⟨g, 0, none⟩)
  | .func f => .func (.func f) #[] #[]

theorem EvRel.of_tmps {n : Nat} {t : Tr V} {tmps : Array Value} (h : TRel ρ n t tmps) : EvRel ρ n t (evalT tmps) := by
  intro x v hx
  cases x with
  | tmp k =>
    obtain ⟨h1, h2⟩ := h k v hx
    refine ⟨?_, h2⟩
    simp only [evalT, Array.getD_eq_getD_getElem?, h1, Option.getD_some]
  | const c => exact ⟨(ofVal_den hx ρ).symm, ofVal_wf hx n⟩
  | global g => simp [opnd] at hx
  | func f => simp [opnd] at hx; subst hx; exact ⟨rfl, trivial, trivial, trivial⟩

section
variable {n : Nat} {t : Tr V} {ev : Operand → Value} (h : EvRel ρ n t ev)
include h
theorem opndL_spec : ∀ {l : List Operand} {r : List V}, opndL t l = some r → l.map ev = V.denL ρ r ∧ V.wfL n r
  | [], r, hr => by simp [opndL] at hr; subst hr; exact ⟨rfl, trivial⟩
  | x :: l, r, hr => by
    simp only [opndL] at hr
    split at hr
    · rename_i v hv
      split at hr
      · rename_i s hs
        simp at hr; subst hr
        obtain ⟨h1, h2⟩ := h x v hv
        obtain ⟨h3, h4⟩ := opndL_spec hs
        exact ⟨by simp [V.denL, h1, h3], h2, h4⟩
      · simp at hr
    · simp at hr
theorem opndO_spec {x : Option Operand} {r : Option V} (hr : opndO t x = some r) : x.map ev = r.map (V.den ρ) ∧ ∀ v, r = some v → v.wf n := by
  cases x with
  | none => simp [opndO] at hr; subst hr; simp
  | some x =>
    simp only [opndO] at hr
    split at hr
    · rename_i v hv
      simp at hr; subst hr
      obtain ⟨h1, h2⟩ := h x v hv
      exact ⟨by simp [h1], by rintro u ⟨⟩; exact h2⟩
    · simp at hr
theorem opndP_spec : ∀ {l : List (Nat × Operand)} {r : List (Nat × V)}, opndP t l = some r → l.map (fun x => (x.1, ev x.2)) = r.map (fun x => (x.1, x.2.den ρ)) ∧ ∀ x ∈ r, x.2.wf n
  | [], r, hr => by simp [opndP] at hr; subst hr; simp
  | (i, x) :: l, r, hr => by
    simp only [opndP] at hr
    split at hr
    · rename_i v hv
      split at hr
      · rename_i s hs
        simp at hr; subst hr
        obtain ⟨h1, h2⟩ := h x v hv
        obtain ⟨h3, h4⟩ := opndP_spec hs
        refine ⟨by simp [h1, h3], ?_⟩
        intro y hy
        rcases List.mem_cons.1 hy with rfl | hy
        · exact h2
        · exact h4 y hy
      · simp at hr
    · simp at hr
end

/-! ## Calls -/
def hasBody (C : Ctx) (f : Nat) : Bool := match C.fn.get f with | some _ => true | none => false
theorem run_callFunc {C : Ctx} (hC : C.Ok P) {f : Nat} (h : hasBody C f = true) (args : Array Value) : (callFunc f args).run P w = .ok (.enter f args) w := by
  unfold hasBody at h
  split at h
  · rename_i x hx
    obtain ⟨fn, h1, h2, h3, _⟩ := hC.fnOf hx
    have h3' : ¬ fn.name = "runtime.NumGoroutine" := by simpa using h3
    simp [callFunc, h1, h2, h3']
  · simp at h

def doBuiltin (C : Ctx) (st : St) (b : Builtin) (tys : List Nat) (args : List V) : OpR :=
  match b, tys, args with
  | .append, [sT, xT], [s, x] => match C.ty.get xT with
    | some j => bif isInt j.und then doAppendZ C st sT xT s x else doAppend C st sT xT s x
    | none => .bad 139
  | .len, [t], [x] => doLen C st t x
  | .cap, [t], [x] => doCap C st t x
  | .min, _, l => doMin st l
  | .max, _, l => doMax st l
  | .recover, _, _ => .recover
  | .clear, [t], [x] => doClear C st t x
  | _, _, _ => .bad 140

def doCall (C : Ctx) (st : St) (t : Tr V) (c : Call) : OpR :=
  match opndL t c.args.toList with
  | none => .bad 141
  | some args => match c.callee with
    | .builtin b => doBuiltin C st b c.argTypes.toList args
    | .value x => match opnd t x with
      | some (.func (.fn (.func f)) first caps) => bif hasBody C f then .call f (first ++ args ++ caps) else .bad 142
      | some (.func (.yield id) first _) => .yield id (first ++ args)
      | _ => .bad 143
    | .invoke x name => match opnd t x with
      | some (.iface ty v) => match C.ty.get ty with
        | some i => match findMeth name i.meth with
          | some f => bif hasBody C f then .call f (v :: args) else .bad 147
          | none => .bad 159
        | none => .bad 160
      | _ => .bad 144

theorem denL_append (ρ : Env) (a b : List V) : V.denL ρ (a ++ b) = V.denL ρ a ++ V.denL ρ b := by simp [V.denL_eq]

theorem array_of {α : Type} (a : Array α) {l : List α} (h : a.toList = l) : a = l.toArray := by subst h; simp

theorem doBuiltin_ok {C : Ctx} (hC : C.Ok P) (hR : Real ρ st w) (b : Builtin) (tys : List Nat) (rty : Nat) (consts : Array Bool) {args : List V} (ha : V.wfL st.nx args) :
    OpOk P ρ st w (builtin b tys.toArray rty consts (V.denL ρ args).toArray) (doBuiltin C st b tys args) := by
  unfold doBuiltin
  split
  · rename_i sT xT s x
    split
    · rename_i j hj
      cases isInt j.und
      · exact OpOk.of_v (doAppend_ok hC hR sT xT rty ha.1)
      · exact OpOk.of_v (doAppendZ_ok hC hR sT xT rty)
    · trivial
  · exact OpOk.of_v (doLen_ok hC hR _ rty _)
  · exact OpOk.of_v (doCap_ok hC hR _ rty ha.1)
  · exact OpOk.of_v (doMin_ok hR _ rty ha)
  · exact OpOk.of_v (doMax_ok hR _ rty ha)
  · exact rfl
  · exact OpOk.of_v (doClear_ok hC hR _ rty _)
  · trivial

theorem wfL_app {n : Nat} {a b : List V} (ha : V.wfL n a) (hb : V.wfL n b) : V.wfL n (a ++ b) := wfL_append ha hb

theorem run_callMethod {C : Ctx} (hC : C.Ok P) {ty f : Nat} {i : TyI} {name : String} (hi : C.ty.get ty = some i) (hm : findMeth name i.meth = some f) (hb : hasBody C f = true) (v : Value) (args : Array Value) :
    (callMethod (.iface ty v) name args).run P w = .ok (.enter f (#[v] ++ args)) w := by
  have hT := hC.get hi
  obtain ⟨x, h1, h2⟩ := hT.meth
  rw [h2] at hm
  obtain ⟨m, g1, g2, pr, g3, g4⟩ := findMeth_spec hm
  have hfind : x.methods.find? (fun m => m.name == name) = some m := by
    rw [← Array.find?_toList]; exact g1
  have hd : ∃ n, P.types.size + Made.depth = n + 1 := ⟨P.types.size + 99, rfl⟩
  obtain ⟨n, hn⟩ := hd
  have hmeth : (method (P.types.size + Made.depth) ty v name).run P w = .ok (f, v) w := by
    rw [hn]
    unfold method
    rw [Sem.run_bind]
    have ht : (typeInfo ty).run P w = .ok x w := by simp [typeInfo, h1]
    rw [ht, Result.andThen_ok]
    simp only [hfind, g2, follow, pure_bind, g3, Sem.run_bind]
    have hr : (receiverAt ty (.val v) pr (if m.path.isEmpty = true then some ((name.splitOn ".").getLastD name) else none)).run P w = .ok v w := by
      unfold receiverAt
      rw [Sem.run_bind, hT.run_und, Result.andThen_ok]
      cases hu : i.und <;> rw [hu] at g4 <;> simp only [isPtrD, if_true, Bool.false_eq_true, if_false, Bool.not_eq_true'] at g4 <;> subst g4 <;> rfl
    rw [hr]
    rfl
  unfold callMethod
  simp only [Sem.run_bind]
  have hp : (program : Sem Program).run P w = .ok P w := rfl
  rw [hp, Result.andThen_ok, hmeth, Result.andThen_ok]
  exact run_callFunc hC hb _
theorem doCall_ok {C : Ctx} (hC : C.Ok P) (hR : Real ρ st w) {t : Tr V} {ev : Operand → Value} (hE : EvRel ρ st.nx t ev) (c : Call) (ty : Nat) :
    OpOk P ρ st w (do let d ← resolve ev c ty; invoke d.target d.args) (doCall C st t c) := by
  unfold doCall
  split
  · trivial
  · rename_i args hargs
    obtain ⟨h1, h2⟩ := opndL_spec hE hargs
    have ha : Array.map ev c.args = (V.denL ρ args).toArray := array_of _ (by simpa using h1)
    split
    · rename_i b hb
      have e : ∃ q, (do let d ← resolve ev c ty; invoke d.target d.args : Sem Next) = builtin b c.argTypes.toList.toArray ty q (V.denL ρ args).toArray := by
        refine ⟨Array.map (fun x => match x with | .const _ => true | _ => false) c.args, ?_⟩
        simp only [resolve, hb, pure_bind, invoke, ha, Array.toArray_toList]
        rfl
      obtain ⟨q, e⟩ := e
      rw [e]
      exact doBuiltin_ok hC hR b _ ty _ h2
    · rename_i x hx
      split
      · rename_i f first caps hv
        obtain ⟨h3, h4⟩ := hE x _ hv
        cases hb : hasBody C f
        · trivial
        · refine ⟨wfL_app (wfL_app h4.2.1 h2) h4.2.2, ?_⟩
          have e : (do let d ← resolve ev c ty; invoke d.target d.args : Sem Next) = callFunc f (V.denL ρ (first ++ args ++ caps)).toArray := by
            simp only [resolve, hx, h3, V.den, AFn.den, Deferred.ofValue, pure_bind, invoke, ha, denL_append]
            congr 1
            simp
          rw [e]
          exact run_callFunc hC hb _
      · rename_i id first caps hv
        obtain ⟨h3, h4⟩ := hE x _ hv
        refine ⟨h4.1, wfL_app h4.2.1 h2, ?_⟩
        have e : (do let d ← resolve ev c ty; invoke d.target d.args : Sem Next) = Instr.yield (ρ.b id) (V.denL ρ (first ++ args)).toArray := by
          simp only [resolve, hx, h3, V.den, AFn.den, Deferred.ofValue, pure_bind, invoke, ha, denL_append]
          congr 1
          simp
        rw [e]
      · trivial
    · rename_i x name hx
      split
      · rename_i t v hv
        obtain ⟨h3, h4⟩ := hE x _ hv
        split
        · rename_i i hi
          split
          · rename_i f hm
            cases hb : hasBody C f
            · trivial
            · refine ⟨⟨h4, h2⟩, ?_⟩
              have e : (do let d ← resolve ev c ty; invoke d.target d.args : Sem Next) = callMethod (.iface t (v.den ρ)) name (V.denL ρ args).toArray := by
                have hx2 : (#[Value.iface t (v.den ρ)] ++ (V.denL ρ args).toArray).extract 1 (#[Value.iface t (v.den ρ)] ++ (V.denL ρ args).toArray).size = (V.denL ρ args).toArray := by
                  apply Array.toList_inj.1
                  simp
                have h0 : (#[Value.iface t (v.den ρ)] ++ (V.denL ρ args).toArray)[0]? = some (Value.iface t (v.den ρ)) := by simp
                simp only [resolve, hx, h3, pure_bind, invoke, ha, V.den, h0, hx2]
              rw [e]
              have := run_callMethod hC hi hm hb (v.den ρ) (V.denL ρ args).toArray (w := w)
              rw [this]
              simp [V.denL]
          · trivial
        · trivial
      · trivial

def doDefer (t : Tr V) (c : Call) : OpR :=
  match c.callee with
  | .value x => match opnd t x, opndL t c.args.toList with
    | some (.func f first caps), some args => .defer (.fn f caps (first ++ args))
    | _, _ => .bad 145
  | _ => .bad 146
theorem doDefer_ok {t : Tr V} {ev : Operand → Value} (hE : EvRel ρ st.nx t ev) (c : Call) (ty : Nat) :
    OpOk P ρ st w (do pure (.defer (← resolve ev c ty))) (doDefer t c) := by
  unfold doDefer
  split
  · rename_i x hx
    split
    · rename_i f first caps args hv hargs
      obtain ⟨h1, h2⟩ := opndL_spec hE hargs
      obtain ⟨h3, h4⟩ := hE x _ hv
      have ha : Array.map ev c.args = (V.denL ρ args).toArray := array_of _ (by simpa using h1)
      refine ⟨⟨h4.1, h4.2.2, wfL_app h4.2.1 h2⟩, ?_⟩
      simp only [resolve, hx, h3, V.den, Deferred.ofValue, pure_bind, ha, AD.den, denL_append]
      simp
    · trivial
  · trivial

/-! ## One operation -/
def v1 (t : Tr V) (x : Operand) (f : V → OpR) : OpR := match opnd t x with | some v => f v | none => .bad 150
def v2 (t : Tr V) (x y : Operand) (f : V → V → OpR) : OpR := match opnd t x, opnd t y with | some v, some u => f v u | _, _ => .bad 151

def evOp (C : Ctx) (t : Tr V) (st : St) (o : Oper) : OpR :=
  match o.op with
  | .move x => v1 t x fun v => .val v st
  | .assign x => v1 t x fun v => .val v st
  | .load ty a => v1 t a fun v => doLoad C st ty v
  | .store ty a x => v2 t a x fun v u => doStore C st ty v u
  | .binOp op ty x y _ => v2 t x y fun v u => doBin C st op ty x y v u
  | .fieldAddr s x f => v1 t x fun v => doFieldAddr C st s v f
  | .call c => doCall C st t c
  | .indexAddr ty x ix => v2 t x ix fun v u => doIndexAddr C st ty v u
  | .nilCheck x => v1 t x fun v => doNilCheck st v
  | .pick c a b => match opnd t c, opnd t a, opnd t b with | some x, some y, some z => doPick st x y z | _, _, _ => .bad 152
  | .box _ x => v1 t x fun v => doBox st v
  | .extract x k => v1 t x fun v => doExtract st v k
  | .build ty parts => match opndP t parts.toList with | some l => doBuild C st ty l | none => .bad 153
  | .alloc ty => doAlloc C st ty
  | .unOp op _ x => v1 t x fun v => doUn st op v
  | .buildSlice ty len parts => match opndP t parts.toList with | some l => doBuildSlice C st ty len l | none => .bad 154
  | .makeFunc f first caps => match opndL t first.toList, opndL t caps.toList with | some a, some b => doMakeFunc st f a b | _, _ => .bad 155
  | .index ty x ix => v2 t x ix fun v u => doIndex C st ty v u
  | .slice ty x lo hi mx => match opnd t x, opndO t lo, opndO t hi, opndO t mx with | some v, some a, some b, some c => doSlice C st ty v a b c | _, _, _, _ => .bad 156
  | .field s x f => v1 t x fun v => doField C st s v f
  | .makeInterface ty x => v1 t x fun v => doMakeInterface C st ty v
  | .makeMap _ r => match opndO t r with | some a => doMakeMap st a | none => .bad 157
  | .convert src dst x => v1 t x fun v => doConvert C st src dst v
  | .makeSlice ty l c => v2 t l c fun v u => doMakeSlice C st ty v u
  | .typeAssert x _ asserted ok => v1 t x fun v => doTypeAssert C st v asserted ok
  | .panic x => v1 t x fun v => doPanic v
  | .range ty x => v1 t x fun v => doRange C st ty v
  | .next it isString => v1 t it fun v => doNext st v isString
  | .entry it => v1 t it fun v => doEntry st v
  | .lookup ty x k ok => v2 t x k fun v u => doLookup C st ty v u ok
  | .mapUpdate ty m k x => v2 t m k fun v u => v1 t x fun y => doMapUpdate C st ty v u y
  | .insert ty m k x => v2 t m k fun v u => v1 t x fun y => doMapUpdate C st ty v u y
  | .defer c => doDefer t c
  | _ => .bad 158

theorem doNilCheck_ok (hR : Real ρ st w) {x : Operand} {v : V} {ev : Operand → Value} (hx : ev x = v.den ρ) (hv : v.wf st.nx) (o : Oper) (ho : o.op = .nilCheck x) :
    OpOk P ρ st w (execOp ev o) (doNilCheck st v) := by
  have key : ∀ u : Value, ev x = u → u ≠ .pointer none → u ≠ .nilIface → u ≠ .nilFunc → (∀ n a b, u ≠ .func (.method n) a b) → execOp ev o = pure (Next.value u) := by
    intro u hu h1 h2 h3 h4
    unfold execOp
    rw [ho]
    dsimp only
    rw [hu]
    split
    · exact absurd rfl h1
    · exact absurd rfl h2
    · exact absurd rfl h3
    · exact absurd rfl (h4 _ _ _)
    · rfl
  cases v
  case ptr id off => exact ⟨ρ, w, Step.refl hR, hv, by rw [key _ hx (by simp [V.den]) (by simp [V.den]) (by simp [V.den]) (by simp [V.den])]; rfl⟩
  case iface t u => exact ⟨ρ, w, Step.refl hR, hv, by rw [key _ hx (by simp [V.den]) (by simp [V.den]) (by simp [V.den]) (by simp [V.den])]; rfl⟩
  case func f a b =>
    cases f
    case fn f =>
      cases f
      case func f => exact ⟨ρ, w, Step.refl hR, hv, by rw [key _ hx (by simp [V.den]) (by simp [V.den]) (by simp [V.den]) (by simp [V.den, AFn.den])]; rfl⟩
      all_goals trivial
    case yield id => exact ⟨ρ, w, Step.refl hR, hv, by rw [key _ hx (by simp [V.den]) (by simp [V.den]) (by simp [V.den]) (by simp [V.den, AFn.den])]; rfl⟩
  all_goals trivial

theorem evOp_ok {C : Ctx} (hC : C.Ok P) (hR : Real ρ st w) {t : Tr V} {ev : Operand → Value} (hE : EvRel ρ st.nx t ev) (o : Oper) :
    OpOk P ρ st w (execOp ev o) (evOp C t st o) := by
  have k1 : ∀ {x : Operand} {f : V → OpR} {s : Sem Next}, (∀ v, ev x = v.den ρ → v.wf st.nx → OpOk P ρ st w s (f v)) → OpOk P ρ st w s (v1 t x f) := by
    intro x f s h
    unfold v1; split
    · rename_i v hv; obtain ⟨h1, h2⟩ := hE x v hv; exact h v h1 h2
    · trivial
  have k2 : ∀ {x y : Operand} {f : V → V → OpR} {s : Sem Next}, (∀ v u, ev x = v.den ρ → v.wf st.nx → ev y = u.den ρ → u.wf st.nx → OpOk P ρ st w s (f v u)) → OpOk P ρ st w s (v2 t x y f) := by
    intro x y f s h
    unfold v2; split
    · rename_i v u hv hu; obtain ⟨h1, h2⟩ := hE x v hv; obtain ⟨h3, h4⟩ := hE y u hu; exact h v u h1 h2 h3 h4
    · trivial
  have kx : ∀ {op : Op}, o.op = op → ∀ {s : Sem Next} {r : OpR}, execOp ev o = s → evOp C t st o = r → OpOk P ρ st w s r → OpOk P ρ st w (execOp ev o) (evOp C t st o) := by
    intro op ho s r h1 h2 h; rw [h1, h2]; exact h
  cases ho : o.op
  case nilCheck x =>
    have e : evOp C t st o = v1 t x fun v => doNilCheck st v := by unfold evOp; rw [ho]
    rw [e]
    exact k1 fun v e h => doNilCheck_ok hR e h o ho
  all_goals (unfold evOp execOp; rw [ho]; dsimp only)
  case move x => exact k1 fun v e h => ⟨ρ, w, Step.refl hR, h, by rw [e]; rfl⟩
  case assign x => exact k1 fun v e h => ⟨ρ, w, Step.refl hR, h, by rw [e]; rfl⟩
  case load ty a => exact k1 fun v e h => by rw [e]; exact OpOk.of_v (doLoad_ok hC hR ty v)
  case store ty a x => exact k2 fun v u e h e' h' => by rw [e, e']; exact OpOk.of_u (doStore_ok hC hR ty v h')
  case binOp op ty x y yt => exact k2 fun v u e h e' h' => by rw [e, e']; exact OpOk.of_v (doBin_ok hC hR op ty x y h h')
  case fieldAddr s x f => exact k1 fun v e h => by rw [e]; exact OpOk.of_v (doFieldAddr_ok hC hR s h f)
  case call c => exact doCall_ok hC hR hE c o.type
  case indexAddr ty x ix => exact k2 fun v u e h e' h' => by rw [e, e']; exact OpOk.of_v (doIndexAddr_ok hC hR ty h h')
  case pick c a b =>
    split
    · rename_i x y z hx hy hz
      obtain ⟨e1, h1⟩ := hE c x hx
      obtain ⟨e2, h2⟩ := hE a y hy
      obtain ⟨e3, h3⟩ := hE b z hz
      have := OpOk.of_v (doPick_ok (P := P) hR h1 h2 h3)
      rw [e1, e2, e3]
      have e : ∀ (s : Sem Bool) (f : Bool → Value), (do let x ← (do let q ← s; pure (f q)); pure (Next.value x) : Sem Next) = (do let q ← s; pure (Next.value (f q))) := by
        intro s f; simp
      rw [e] at this
      exact this
    · trivial
  case box ty x => exact k1 fun v e h => by rw [e]; exact OpOk.of_v (doBox_ok hR ty h)
  case extract x k => exact k1 fun v e h => by rw [e]; exact OpOk.of_v (doExtract_ok hR h k)
  case build ty parts =>
    split
    · rename_i l hl
      obtain ⟨h1, h2⟩ := opndP_spec hE hl
      have ha : Array.map (fun x => match x with | (i, x) => (i, ev x)) parts = (l.map fun x => (x.1, x.2.den ρ)).toArray := array_of _ (by simpa using h1)
      rw [ha]
      exact OpOk.of_v (doBuild_ok hC hR ty h2)
    · trivial
  case alloc ty => exact OpOk.of_v (doAlloc_ok hC hR ty)
  case unOp op ty x => exact k1 fun v e h => by rw [e]; exact OpOk.of_v (doUn_ok hR op h)
  case buildSlice ty len parts =>
    split
    · rename_i l hl
      obtain ⟨h1, h2⟩ := opndP_spec hE hl
      have ha : Array.map (fun x => match x with | (i, x) => (i, ev x)) parts = (l.map fun x => (x.1, x.2.den ρ)).toArray := array_of _ (by simpa using h1)
      rw [ha]
      exact OpOk.of_v (doBuildSlice_ok hC hR ty len h2)
    · trivial
  case makeFunc f first caps =>
    split
    · rename_i a b h1 h2
      obtain ⟨e1, w1⟩ := opndL_spec hE h1
      obtain ⟨e2, w2⟩ := opndL_spec hE h2
      rw [array_of (Array.map ev first) (l := V.denL ρ a) (by simpa using e1), array_of (Array.map ev caps) (l := V.denL ρ b) (by simpa using e2)]
      exact OpOk.of_v (doMakeFunc_ok hR f w1 w2)
    · trivial
  case index ty x ix => exact k2 fun v u e h e' h' => by rw [e, e']; exact OpOk.of_v (doIndex_ok hC hR ty h h')
  case slice ty x lo hi mx =>
    split
    · rename_i v a b c h1 h2 h3 h4
      obtain ⟨e1, w1⟩ := hE x v h1
      obtain ⟨e2, _⟩ := opndO_spec hE h2
      obtain ⟨e3, _⟩ := opndO_spec hE h3
      obtain ⟨e4, _⟩ := opndO_spec hE h4
      rw [e1, e2, e3, e4]
      exact OpOk.of_v (doSlice_ok hC hR ty w1 a b c)
    · trivial
  case field s x f => exact k1 fun v e h => by rw [e]; exact OpOk.of_v (doField_ok hC hR s h f)
  case makeInterface ty x => exact k1 fun v e h => by rw [e]; exact OpOk.of_v (doMakeInterface_ok hC hR ty h)
  case makeMap ty r =>
    split
    · rename_i a h1
      obtain ⟨e1, _⟩ := opndO_spec hE h1
      rw [e1]
      exact OpOk.of_v (doMakeMap_ok hR ty a)
    · trivial
  case convert src dst x => exact k1 fun v e h => by rw [e]; exact OpOk.of_v (doConvert_ok hC hR src dst h)
  case makeSlice ty l c => exact k2 fun v u e h e' h' => by rw [e, e']; exact OpOk.of_v (doMakeSlice_ok hC hR ty)
  case typeAssert x xT asserted ok => exact k1 fun v e h => by rw [e]; exact OpOk.of_v (doTypeAssert_ok hC hR h xT asserted ok)
  case panic x => exact k1 fun v e h => by rw [e]; exact OpOk.of_v (doPanic_ok h)
  case range ty x => exact k1 fun v e h => by rw [e]; exact OpOk.of_v (doRange_ok hC hR ty _ h)
  case next it isString => exact k1 fun v e h => by rw [e]; exact OpOk.of_v (doNext_ok hR h isString o.type)
  case entry it => exact k1 fun v e h => by rw [e]; exact OpOk.of_v (doEntry_ok hR _)
  case lookup ty x k ok => exact k2 fun v u e h e' h' => by rw [e, e']; exact OpOk.of_v (doLookup_ok hC hR ty h' ok)
  case mapUpdate ty m k x => exact k2 fun v u e h e' h' => k1 fun y e2 h2 => by rw [e, e', e2]; exact OpOk.of_u (doMapUpdate_ok hC hR ty h' h2)
  case insert ty m k x => exact k2 fun v u e h e' h' => k1 fun y e2 h2 => by rw [e, e', e2]; exact OpOk.of_u (doMapUpdate_ok hC hR ty h' h2)
  case defer c => exact doDefer_ok hE c o.type
  all_goals trivial
end
end Go.Sx
