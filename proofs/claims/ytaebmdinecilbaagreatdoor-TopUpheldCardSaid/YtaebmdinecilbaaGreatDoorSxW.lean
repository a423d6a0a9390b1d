/- A part of a symbolic evaluator over the model and of the proof that it is right: 'SxW'. It holds for every program; no condition. -/
import Derived.Test.YtaebmdinecilbaaGreatDoorSxLp
namespace Go.Sx

inductive Job where
  | plan (fc : FC) (all : Array Oper) (acts : List PA) (fr : Fr)
  | frame (fc : FC) (todo : List AI) (fr : Fr)
  | ops (fc : FC) (all : Array Oper) (l : List Oper) (fr : Fr)
  | call (k : CallKind) (f : Nat) (args : List V)
  | unwind (ds : List AD)
inductive Out where
  | frame (fr : Fr) (o : FOut)
  | ops (fr : Fr)
  | call (o : COut)
  | un

/-- one of some results -/
def oneRes (n : Nat) (g : V × St → Res (Out × St)) : List (V × St) → Res (Out × St)
  | [] => .bad 1055
  | x :: l => .fork (.var (Nat.add n x.2.nx)) (g x) (oneRes n g l)
def jumpItems : Option Code → List AI → List AI
  | none, k => k
  | some c, k => .code c :: k

def summ (C : Ctx) (k : CallKind) (g : Nat) (args : List V) (st : St) : Option (V × St) :=
  match k with
  | .normal => match C.sm.get g with
    | some S => S st args
    | none => none
  | _ => none
def ev (C : Ctx) : Nat → Job → St → Res (Out × St)
  | 0, _, _ => .bad 1000
  | f + 1, j, st => match j with
    | .call k g args => match summ C k g args st with
      | some (v, st1) => .ok (.call (.ret v), st1)
      | none => match C.fn.get g with
      | none => .bad 1001
      | some x => (ev C f (.frame ⟨g, k, none, x.plans, none⟩ [.code x.code] { t := initT args 0 .e, sz := Nat.add args.length (Nat.sub x.ntmps args.length), ds := [] }) st).bind fun r => match r.1 with
        | .frame fr o => match o with
          | .leave _ => (ev C f (.unwind fr.ds) r.2).bind fun q => match q.1 with
            | .un => match doResults C q.2 fr.t x.results with
              | some l => .ok (.call (.ret (resTup l)), q.2)
              | none => .bad 1002
            | _ => .bad 1018
          | .panic v => match fr.ds with
            | [] => .ok (.call (.panic v), r.2)
            | _ => .bad 1003
          | .hd _ => .bad 1072
        | _ => .bad 1004
    | .unwind ds => match ds with
      | [] => .ok (.un, st)
      | .collected id :: ds => match st.h.get id with
        | some (.deferred (some l)) => ev C f (.unwind (l ++ ds)) { st with h := st.h.set id (.deferred none) }
        | _ => .bad 1050
      | .fn (.fn (.func g)) caps args :: ds => bif hasBody C g then ((ev C f (.call .deferred g (args ++ caps)) st).bind fun r => match r.1 with
        | .call (.ret _) => ev C f (.unwind ds) r.2
        | _ => .bad 1051) else .bad 1052
      | _ => .bad 1053
    | .frame fc todo fr => match todo with
      | [] => .ok (.frame fr (.leave none), st)
      | .inBlock _ :: k => ev C f (.frame fc k fr) st
      | .inScope _ :: k => ev C f (.frame fc k fr) st
      | .inLoop c :: k => match fc.lim with
        | none => ev C f (.frame fc (.code c :: .inLoop c :: k) fr) st
        | some 0 => .ok (.frame fr (.hd (.code c :: .inLoop c :: k)), st)
        | some (n + 1) => ev C f (.frame { fc with lim := some n } (.code c :: .inLoop c :: k) fr) st
      | .beginRound :: k => match fc.ro with
        | some id => match getLp st id with
          | some l => match l.state with
            | .ready => ev C f (.frame fc k fr) (setLp st id { l with state := .busy })
            | _ => .bad 1060
          | none => .bad 1061
        | none => .bad 1062
      | .endRF id :: k => match getLp st id with
        | some l => match l.state with
          | .busy => .bad 1005
          | _ => ev C f (.frame fc (jumpItems l.pending k) fr) (setLp st id { l with state := .exhausted })
        | none => .bad 1063
      | .code c :: k => match c with
        | .ret => .ok (.frame fr (.leave (some .ret)), st)
        | .skip => ev C f (.frame fc k fr) st
        | .label _ => ev C f (.frame fc k fr) st
        | .seq a b => ev C f (.frame fc (.code a :: .code b :: k) fr) st
        | .block n c => ev C f (.frame fc (.code c :: .inBlock n :: k) fr) st
        | .loop c => match fc.lim with
          | none => ev C f (.frame fc (.code c :: .inLoop c :: k) fr) st
          | some 0 => .ok (.frame fr (.hd (.code c :: .inLoop c :: k)), st)
          | some (n + 1) => ev C f (.frame { fc with lim := some n } (.code c :: .inLoop c :: k) fr) st
        | .scope c => ev C f (.frame fc (.code c :: .inScope c :: k) fr) st
        | .exit n => match aExit n k with
          | some k' => ev C f (.frame fc k' fr) st
          | none => match fc.ro with
            | some _ => .ok (.frame fr (.leave (some (.exit n))), st)
            | none => .bad 1006
        | .goto n => match aGoto n k with
          | some k' => ev C f (.frame fc k' fr) st
          | none => match fc.ro with
            | some _ => .ok (.frame fr (.leave (some (.goto n))), st)
            | none => .bad 1007
        | .cond x a b => match opnd fr.t x with
          | some (.bool t) => match tv st.fc t with
            | some q => ev C f (.frame fc (.code (bif q then a else b) :: k) fr) st
            | none => .fork t (ev C f (.frame fc (.code a :: k) fr) (learnSt st t true)) (ev C f (.frame fc (.code b :: k) fr) (learnSt st t false))
          | _ => .bad 1008
        | .region id ops true => match fc.pl.get id with
          | none => .bad 1019
          | some acts => (ev C f (.plan fc ops acts { fr with t := dropDst ops acts fr.t }) st).bind fun r => match r.1 with
            | .ops fr => ev C f (.frame fc k fr) r.2
            | _ => .bad 1021
        | .region _ ops false => (ev C f (.ops fc ops ops.toList fr) st).bind fun r => match r.1 with
          | .ops fr => ev C f (.frame fc k fr) r.2
          | .frame fr (.panic v) => .ok (.frame fr (.panic v), r.2)
          | _ => .bad 1020
        | .rangeFunc g ps assign body => match opnd fr.t g with
          | some (.func (.fn (.func gf)) first caps) => bif hasBody C gf then (match enterRF fc fr ps assign body st with
            | some (id, fr1, st1) => (ev C f (.call .normal gf (first ++ [.func (.yield id) [] []] ++ caps)) st1).bind fun r => match r.1 with
              | .call (.ret _) => ev C f (.frame fc (.endRF id :: k) fr1) r.2
              | _ => .bad 1009
            | none => .bad 1064) else .bad 1065
          | _ => .bad 1066
        | .refuse _ => .bad 1010
    | .plan fc all acts fr => match acts with
      | [] => .ok (.ops fr, st)
      | .go _ :: l => ev C f (.plan fc all l fr) st
      | .fin :: l => ev C f (.plan fc all l fr) st
      | .n i :: l => match all[i]? with
        | none => .bad 1030
        | some o => match wanted st fr.t all o with
          | .bad => .bad 1031
          | .ask c => .fork c (ev C f (.plan fc all (.n i :: l) fr) (learnSt st c true)) (ev C f (.plan fc all (.n i :: l) fr) (learnSt st c false))
          | .no => match setDst fr o.dst (.tuple []) with
            | some fr => ev C f (.plan fc all l fr) st
            | none => .bad 1032
          | .yes => bif plainKind o then (match evOp C fr.t st o with
            | .val v _ => match setDst fr o.dst v with
              | some fr => ev C f (.plan fc all l fr) st
              | none => .bad 1033
            | .ask c => .fork c (ev C f (.plan fc all (.n i :: l) fr) (learnSt st c true)) (ev C f (.plan fc all (.n i :: l) fr) (learnSt st c false))
            | .bad n => .bad n
            | _ => .bad 1034) else .bad 1035
      | .r i :: l => match all[i]? with
        | none => .bad 1036
        | some o => match wanted st fr.t all o with
          | .bad => .bad 1037
          | .ask _ => .bad 1038
          | .no => bif sameDst fr o.dst (.tuple []) then ev C f (.plan fc all l fr) st else .bad 1039
          | .yes => bif plainKind o then (match evOp C fr.t st o with
            | .val v _ => bif sameDst fr o.dst v then ev C f (.plan fc all l fr) st else .bad 1040
            | .ask c => .fork c (ev C f (.plan fc all (.r i :: l) fr) (learnSt st c true)) (ev C f (.plan fc all (.r i :: l) fr) (learnSt st c false))
            | .bad n => .bad n
            | _ => .bad 1041) else .bad 1042
      | .g i :: l => match all[i]? with
        | none => .bad 1043
        | some o => match evOp C fr.t (iso st) o with
          | .val _ _ => ev C f (.plan fc all l fr) st
          | .ask c => .fork c (ev C f (.plan fc all (.g i :: l) fr) (learnSt st c true)) (ev C f (.plan fc all (.g i :: l) fr) (learnSt st c false))
          | .bad n => .bad n
          | _ => .bad 1044
      | .b i :: l => match all[i]? with
        | none => .bad 1045
        | some o => match evOp C fr.t (iso st) o with
          | .val v st' => match setDst fr o.dst v with
            | some fr => ev C f (.plan fc all l fr) (bindNew st st')
            | none => .bad 1046
          | .bad n => .bad n
          | _ => .bad 1047
      | .x i :: l => match all[i]? with
        | none => .bad 1048
        | some o => (ev C f (.ops fc all [o] fr) st).bind fun r => match r.1 with
          | .ops fr => ev C f (.plan fc all l fr) r.2
          | _ => .bad 1049
    | .ops fc all l fr => match l with
      | [] => .ok (.ops fr, st)
      | o :: l => match wanted st fr.t all o with
        | .bad => .bad 1011
        | .ask c => .fork c (ev C f (.ops fc all (o :: l) fr) (learnSt st c true)) (ev C f (.ops fc all (o :: l) fr) (learnSt st c false))
        | .no => match setDst fr o.dst (.tuple []) with
          | some fr => ev C f (.ops fc all l fr) st
          | none => .bad 1012
        | .yes => match evOp C fr.t st o with
          | .val v st => match setDst fr o.dst v with
            | some fr => ev C f (.ops fc all l fr) st
            | none => .bad 1013
          | .skip st => match setDst fr o.dst (.tuple []) with
            | some fr => ev C f (.ops fc all l fr) st
            | none => .bad 1014
          | .call g args => (ev C f (.call .normal g args) st).bind fun r => match r.1 with
            | .call (.ret v) => match setDst fr o.dst v with
              | some fr => ev C f (.ops fc all l fr) r.2
              | none => .bad 1015
            | .call (.panic v) => .ok (.frame fr (.panic v), r.2)
            | _ => .bad 1016
          | .ask c => .fork c (ev C f (.ops fc all (o :: l) fr) (learnSt st c true)) (ev C f (.ops fc all (o :: l) fr) (learnSt st c false))
          | .panic v => .ok (.frame fr (.panic v), st)
          | .oneOf vs => oneRes st.nx (fun x => match setDst fr o.dst x.1 with
            | some fr => ev C f (.ops fc all l fr) x.2
            | none => .bad 1054) vs
          | .defer d => match fc.ro with
            | none => match setDst { fr with ds := d :: fr.ds } o.dst (.tuple []) with
              | some fr => ev C f (.ops fc all l fr) st
              | none => .bad 1056
            | some _ => .bad 1057
          | .recover => match fc.ro with
            | none => match setDst fr o.dst .nilIface with
              | some fr => ev C f (.ops fc all l fr) st
              | none => .bad 1058
            | some _ => .bad 1059
          | .yield id args => match getLp st id with
            | some lp => match setParams lp.sz lp.params.toList args lp.t with
              | some t => (ev C f (.frame ⟨lp.fn, .normal, some id, lp.pl, none⟩ [.code lp.assign, .beginRound, .code lp.body] { t := t, sz := lp.sz, ds := [] }) st).bind fun r => match r.1 with
                | .frame _ (.leave j) => match getLp r.2 id with
                  | some l2 => match setDst fr o.dst (.bool (.lit (b2i j.isNone))) with
                    | some fr => ev C f (.ops fc all l fr) (setLp r.2 id { l2 with state := roundState j, pending := j })
                    | none => .bad 1067
                  | none => .bad 1068
                | _ => .bad 1069
              | none => .bad 1070
            | none => .bad 1071
          | .bad n => .bad n

/-! ## It is right -/
def panics (v : Value) : List PanicEntry := [{ v := v, recovered := false }]
/-- a frame is left -/
def FrameOut (P : Program) (b : Frame) (cs : List Frame) (m : Machine) (ρ : Env) (n : Nat) (w : World) (fr : Fr) : FOut → Prop
  | .leave j => (b.roundOf = none → ∃ a todo, FrOk ρ n fr a ∧ Steps P m (lone { b.atR a todo with mode := .returning } cs w)) ∧
      (b.roundOf ≠ none → ∃ a todo, FrOk ρ n fr a ∧ LeaveAt j todo ∧ Steps P m (lone (b.atR a todo) cs w))
  | .panic v => v.wf n ∧ ∃ a todo, FrOk ρ n fr a ∧ Steps P m (lone { b.atR a todo with mode := .panicking (panics (v.den ρ)) } cs w)
  | .hd todo => AI.wfL n todo ∧ ∃ a, FrOk ρ n fr a ∧ Steps P m (lone (b.atR a (todo.map (AI.den ρ))) cs w)
theorem FrameOut.head {P : Program} {b : Frame} {cs : List Frame} {m m' : Machine} {ρ : Env} {n : Nat} {w : World} {fr : Fr} {o : FOut} (hs : Steps P m m') (h : FrameOut P b cs m' ρ n w fr o) : FrameOut P b cs m ρ n w fr o := by
  cases o with
  | leave j => exact ⟨fun hb => by obtain ⟨a, t, h1, h2⟩ := h.1 hb; exact ⟨a, t, h1, hs.trans h2⟩, fun hb => by obtain ⟨a, t, h1, h3, h2⟩ := h.2 hb; exact ⟨a, t, h1, h3, hs.trans h2⟩⟩
  | panic v => obtain ⟨h0, a, t, h1, h2⟩ := h; exact ⟨h0, a, t, h1, hs.trans h2⟩
  | hd t => obtain ⟨h0, a, h1, h2⟩ := h; exact ⟨h0, a, h1, hs.trans h2⟩

def FrameQ (P : Program) (b : Frame) (cs : List Frame) (m : Machine) (ρ : Env) (st : St) (w : World) (ρ' : Env) (r : Out × St) : Prop :=
  ∃ w', Step ρ st w ρ' r.2 w' ∧ ∃ fr o, r.1 = .frame fr o ∧ FrameOut P b cs m ρ' r.2.nx w' fr o
def OpsQ (P : Program) (b : Frame) (cs : List Frame) (m : Machine) (all : Array Oper) (l : List Oper) (rs : List Nat) (k : List Item) (S : Nat → Prop) (a a' : Act) (ρ : Env) (st : St) (w : World) (ρ' : Env) (r : Out × St) : Prop :=
  ∃ w', Step ρ st w ρ' r.2 w' ∧ ∃ fr a1 a1', FrOk ρ' r.2.nx fr a1' ∧ Agree S a1 a1' ∧ Out' l a a1 ∧ Out' l a' a1' ∧ ((r.1 = .ops fr ∧ Steps P m (lone (b.atR a1 (.inRegion all rs :: k)) cs w')) ∨
    ∃ v todo, r.1 = .frame fr (.panic v) ∧ v.wf r.2.nx ∧ Steps P m (lone { b.atR a1 todo with mode := .panicking (panics (v.den ρ')) } cs w'))
/-- a frame is ready to hand a value back -/
def Leaving (P : Program) (k : CallKind) (fr : Frame) (w : World) (v : Value) : Prop :=
  fr.mode = .returning ∧ fr.defers = [] ∧ fr.kind = k ∧ ∃ fn, P.funcs[fr.fn]? = some fn ∧ (results fn fr.tmps).run P w = .ok v w
def CallQ (P : Program) (k : CallKind) (cs : List Frame) (m : Machine) (g : Nat) (ρ : Env) (st : St) (w : World) (ρ' : Env) (r : Out × St) : Prop :=
  ∃ w', Step ρ st w ρ' r.2 w' ∧ ∃ fr', fr'.fn = g ∧ Steps P m (lone fr' cs w') ∧ ((∃ v, r.1 = .call (.ret v) ∧ v.wf r.2.nx ∧ Leaving P k fr' w' (v.den ρ')) ∨
    ∃ v, r.1 = .call (.panic v) ∧ v.wf r.2.nx ∧ fr'.leaving P w' (.panicked (panics (v.den ρ'))))
def UnQ (P : Program) (b : Frame) (a : Act) (todo : List Item) (cs : List Frame) (ρ : Env) (st : St) (w : World) (ρ' : Env) (r : Out × St) : Prop :=
  r.1 = .un ∧ ∃ w', Step ρ st w ρ' r.2 w' ∧ Steps P (lone { b.atR a todo with mode := .returning } cs w) (lone { b.atR { a with defers := [] } todo with mode := .returning } cs w')
def KOk (k : CallKind) (cs : List Frame) : Prop := k = .normal ∨ (k = .deferred ∧ ∃ c cs', cs = c :: cs' ∧ c.mode = .returning)

def itemOk (pl : Tr (List PA)) : AI → Bool
  | .code c | .inLoop c | .inScope c => codeOk planOk pl c
  | _ => true
def ItemsOk (pl : Tr (List PA)) (l : List AI) : Prop := ∀ x ∈ l, itemOk pl x = true
theorem ItemsOk.cons {pl : Tr (List PA)} {x : AI} {l : List AI} (h : itemOk pl x = true) (hl : ItemsOk pl l) : ItemsOk pl (x :: l) := by
  intro y hy
  rcases List.mem_cons.1 hy with rfl | hy
  · exact h
  · exact hl y hy
theorem ItemsOk.tail {pl : Tr (List PA)} {x : AI} {l : List AI} (hl : ItemsOk pl (x :: l)) : ItemsOk pl l := fun y hy => hl y (List.mem_cons_of_mem _ hy)
theorem ItemsOk.head {pl : Tr (List PA)} {x : AI} {l : List AI} (hl : ItemsOk pl (x :: l)) : itemOk pl x = true := hl x (List.mem_cons_self ..)
theorem findLabel_ok {pl : Tr (List PA)} {l : Nat} : ∀ {c r : Code}, codeOk planOk pl c = true → findLabel c l = some r → codeOk planOk pl r = true
  | .seq a b, r, h, hr => by
    simp only [codeOk, Bool.and_eq_true] at h
    simp only [findLabel] at hr
    split at hr
    · rename_i x hx
      simp at hr; subst hr
      simp only [codeOk, Bool.and_eq_true]
      exact ⟨findLabel_ok h.1 hx, h.2⟩
    · exact findLabel_ok h.2 hr
  | .label k, r, _, hr => by
    simp only [findLabel] at hr
    split at hr
    · simp at hr; subst hr; rfl
    · simp at hr
  | .skip, r, _, hr | .ret, r, _, hr | .cond .., r, _, hr | .block .., r, _, hr | .loop .., r, _, hr | .scope .., r, _, hr | .exit _, r, _, hr | .goto _, r, _, hr | .region .., r, _, hr | .rangeFunc .., r, _, hr | .refuse _, r, _, hr => by simp [findLabel] at hr
theorem aExit_ok {pl : Tr (List PA)} {id : Nat} : ∀ {k k' : List AI}, aExit id k = some k' → ItemsOk pl k → ItemsOk pl k'
  | [], _, h, _ => by simp [aExit] at h
  | .inBlock n :: k, k', h, hk => by
    simp only [aExit] at h
    cases hb : Nat.beq n id <;> simp [hb] at h
    · exact aExit_ok h hk.tail
    · subst h; exact hk.tail
  | .code _ :: k, k', h, hk | .inLoop _ :: k, k', h, hk | .inScope _ :: k, k', h, hk | .endRF _ :: k, k', h, hk | .beginRound :: k, k', h, hk => aExit_ok (k := k) h hk.tail
theorem aGoto_ok {pl : Tr (List PA)} {l : Nat} : ∀ {k k' : List AI}, aGoto l k = some k' → ItemsOk pl k → ItemsOk pl k'
  | [], _, h, _ => by simp [aGoto] at h
  | .inScope body :: k, k', h, hk => by
    simp only [aGoto] at h
    split at h
    · rename_i rest hr
      simp at h; subst h
      exact .cons (findLabel_ok hk.head hr) (.cons hk.head hk.tail)
    · exact aGoto_ok h hk.tail
  | .code _ :: k, k', h, hk | .inLoop _ :: k, k', h, hk | .inBlock _ :: k, k', h, hk | .endRF _ :: k, k', h, hk | .beginRound :: k, k', h, hk => aGoto_ok (k := k) h hk.tail
/-- all plans are good -/
def PlansOk (C : Ctx) : Prop := ∀ f x, C.fn.get f = some x → codeOk planOk x.plans x.code = true

def PlanQ (P : Program) (b : Frame) (cs : List Frame) (m : Machine) (all : Array Oper) (k : List Item) (ρ0 : Env) (st0 : St) (w0 : World) (ρ' : Env) (r : Out × St) : Prop :=
  ∃ w' fr a1, Step ρ0 st0 w0 ρ' r.2 w' ∧ r.1 = .ops fr ∧ FrOk ρ' r.2.nx fr a1 ∧ Steps P m (regM b cs all k [] a1 w')
/-- what else holds while a plan is at work -/
def PMode (P : Program) (c : PC) (s : PSt) (ρ : Env) (st : St) (a' : Act) (sch : List Nat) : Prop :=
  match s.go with
  | none => Prom P c s ρ st a'
  | some (some x) => (∃ rest, sch = x :: rest) ∧ bit c.X x = true
  | some none => sch = []

/-- a summary is right -/
def SumOk (P : Program) (g : Nat) (S : Summ) : Prop := ∀ ρ st w args v st1 cs, Real ρ st w → V.wfL st.nx args → S st args = some (v, st1) →
  ∃ ρ1 w1 fr, Step ρ st w ρ1 st1 w1 ∧ v.wf st1.nx ∧ fr.fn = g ∧ Steps P (lone (Frame.enter P g (V.denL ρ args).toArray .normal) cs w) (lone fr cs w1) ∧ Leaving P .normal fr w1 (v.den ρ1)
def SumsOk (P : Program) (C : Ctx) : Prop := ∀ g S, C.sm.get g = some S → SumOk P g S
structure Sound (C : Ctx) (P : Program) (f : Nat) : Prop where
  plan : ∀ fc (c : PC) acts fr st ρ w (b : Frame) (s send : PSt) D κ ρ0 st0 w0 a a' sch k cs, BOk ρ st.nx fc b cs → PGood c → planRun c acts s = some send → send.go = some none → (∀ i, i < c.ops.size → bit send.E i = true) →
    Inv P c ρ0 st0 w0 s D κ ρ st w fr a a' → PMode P c s ρ st a' sch → Adm c.ops D sch →
    Holds st.nx ρ (ev C f (.plan fc c.ops acts fr) st) (PlanQ P b cs (regM b cs c.ops k sch a w) c.ops k ρ0 st0 w0)
  frame : ∀ fc todo fr st ρ w (b : Frame) a cs, Real ρ st w → BOk ρ st.nx fc b cs → AI.wfL st.nx todo → ItemsOk fc.pl todo → FrOk ρ st.nx fr a →
    Holds st.nx ρ (ev C f (.frame fc todo fr) st) (FrameQ P b cs (lone (b.atR a (todo.map (AI.den ρ))) cs w) ρ st w)
  ops : ∀ fc all l fr st ρ w (b : Frame) (S : Nat → Prop) a a' idx rs k cs, Real ρ st w → BOk ρ st.nx fc b cs → FrOk ρ st.nx fr a' → Agree S a a' → idx.map (fun i => all[i]?) = l.map some → (∀ o ∈ l, Blind S all o) →
    Holds st.nx ρ (ev C f (.ops fc all l fr) st) (OpsQ P b cs (lone (b.atR a (.inRegion all (idx ++ rs) :: k)) cs w) all l rs k S a a' ρ st w)
  call : ∀ k g args st ρ w cs, Real ρ st w → V.wfL st.nx args → KOk k cs →
    Holds st.nx ρ (ev C f (.call k g args) st) (CallQ P k cs (lone (Frame.enter P g (V.denL ρ args).toArray k) cs w) g ρ st w)
  unwind : ∀ ds st ρ w (b : Frame) a todo cs, Real ρ st w → a.defers = ds.map (AD.den ρ) → (∀ d ∈ ds, d.wf st.nx) →
    Holds st.nx ρ (ev C f (.unwind ds) st) (UnQ P b a todo cs ρ st w)

section
variable {C : Ctx} {P : Program} {ρ : Env} {st : St} {w : World} {b : Frame} {cs : List Frame}

theorem FrameQ.pre {ρ1 : Env} {st1 : St} {w1 : World} {m m1 : Machine} (hs : Step ρ st w ρ1 st1 w1) (hm : Steps P m m1) {ρ' : Env} {r : Out × St} (h : FrameQ P b cs m1 ρ1 st1 w1 ρ' r) : FrameQ P b cs m ρ st w ρ' r := by
  obtain ⟨w', h1, fr, o, h2, h3⟩ := h
  exact ⟨w', hs.trans h1, fr, o, h2, h3.head hm⟩
/-- both ways of a question -/
theorem ask_ok {Q : Env → (Out × St) → Prop} {c : Tm} {l r : Res (Out × St)} (hR : Real ρ st w) (hc : c.wf st.nx)
    (hl : (c.den ρ != 0) = true → Step ρ st w ρ (learnSt st c true) w → Holds st.nx ρ l Q) (hr : (c.den ρ != 0) = false → Step ρ st w ρ (learnSt st c false) w → Holds st.nx ρ r Q) :
    Holds st.nx ρ (.fork c l r) Q := by
  refine ⟨ρ, .refl _ _, fun h => ?_, fun h => ?_⟩
  · have h' : (c.den ρ != 0) = true := by simpa using h
    exact hl h' (Step.learn hR h' hc)
  · have h' : (c.den ρ != 0) = false := by simpa using h
    exact hr h' (Step.learn hR h' hc)

theorem range_map (ops : Array Oper) : (List.range ops.size).map (fun i => ops[i]?) = ops.toList.map some := by
  apply List.ext_getElem?
  intro i
  simp only [List.getElem?_map, Array.getElem?_toList]
  by_cases h : i < ops.size
  · simp [h]
  · simp [h]

theorem sound_frame {f : Nat} (hC : C.Ok P) (hM : P.follows .mixedOrders = true) (ih : Sound C P f) : ∀ fc todo fr st ρ w (b : Frame) a cs, Real ρ st w → BOk ρ st.nx fc b cs → AI.wfL st.nx todo → ItemsOk fc.pl todo → FrOk ρ st.nx fr a →
    Holds st.nx ρ (ev C (f + 1) (.frame fc todo fr) st) (FrameQ P b cs (lone (b.atR a (todo.map (AI.den ρ))) cs w) ρ st w) := by
  intro fc todo fr st ρ w b a cs hR hB hw hpl hF
  have go : ∀ k, AI.wfL st.nx k → ItemsOk fc.pl k → Steps P (lone (b.atR a (todo.map (AI.den ρ))) cs w) (lone (b.atR a (k.map (AI.den ρ))) cs w) →
      Holds st.nx ρ (ev C f (.frame fc k fr) st) (FrameQ P b cs (lone (b.atR a (todo.map (AI.den ρ))) cs w) ρ st w) := by
    intro k hk hkp hs
    exact (ih.frame fc k fr st ρ w b a cs hR hB hk hkp hF).imp fun ρ' r _ h => h.pre (Step.refl hR) hs
  have goL : ∀ c k, AI.wfL st.nx k → ItemsOk fc.pl k → itemOk fc.pl (.code c) = true → Steps P (lone (b.atR a (todo.map (AI.den ρ))) cs w) (lone (b.atR a ((AI.code c :: .inLoop c :: k).map (AI.den ρ))) cs w) →
      Holds st.nx ρ (match fc.lim with
        | none => ev C f (.frame fc (.code c :: .inLoop c :: k) fr) st
        | some 0 => .ok (.frame fr (.hd (.code c :: .inLoop c :: k)), st)
        | some (n + 1) => ev C f (.frame { fc with lim := some n } (.code c :: .inLoop c :: k) fr) st) (FrameQ P b cs (lone (b.atR a (todo.map (AI.den ρ))) cs w) ρ st w) := by
    intro c k hk hkp hc hs
    have hw' : AI.wfL st.nx (.code c :: .inLoop c :: k) := AI.wfL_cons trivial (AI.wfL_cons trivial hk)
    split
    · exact go _ hw' (.cons hc (.cons hc hkp)) hs
    · exact ⟨ρ, .refl _ _, w, Step.refl hR, fr, _, rfl, hw', a, hF, hs⟩
    · rename_i n hn
      have hB' : BOk ρ st.nx { fc with lim := some n } b cs := ⟨hB.fn, hB.ro, hB.rw, hB.kd, hB.dk⟩
      exact (ih.frame { fc with lim := some n } _ fr st ρ w b a cs hR hB' hw' (.cons hc (.cons hc hkp)) hF).imp fun ρ' r _ h => h.pre (Step.refl hR) hs
  cases todo with
  | nil =>
    simp only [ev]
    exact ⟨ρ, .refl _ _, w, Step.refl hR, fr, _, rfl, fun hr => ⟨a, _, hF, .one (stepR_end hr)⟩, fun _ => ⟨a, _, hF, rfl, Steps.refl _ _⟩⟩
  | cons x k =>
    have hk := AI.wfL_tail hw
    have hkp := hpl.tail
    have hx0 := hpl.head
    cases x with
    | inBlock n => simp only [ev]; exact go k hk hkp (.one stepR_inBlock)
    | inScope n => simp only [ev]; exact go k hk hkp (.one (step_lone_go (by simp [stepG, stepG.exec, Frame.atR, AI.den])))
    | inLoop c => simp only [ev]; exact goL c k hk hkp hx0 (.one stepR_inLoop)
    | endRF id =>
      simp only [ev]
      split
      · rename_i l hl
        have hid : id < st.nx := hw _ (List.mem_cons_self ..)
        have fin : l.state ≠ .busy → Holds st.nx ρ (ev C f (.frame fc (jumpItems l.pending k) fr) (setLp st id { l with state := .exhausted })) (FrameQ P b cs (lone (b.atR a ((AI.endRF id :: k).map (AI.den ρ))) cs w) ρ st w) := by
          intro hs
          obtain ⟨w', h1, h2⟩ := run_endLoop (P := P) hR hl hs
          have hg := (good_pend hR (getLp_eq hl)).2.2
          have hk1 : AI.wfL st.nx (jumpItems l.pending k) ∧ ItemsOk fc.pl (jumpItems l.pending k) ∧ (jumpItems l.pending k).map (AI.den ρ) = (l.pending.map Item.code).toList ++ k.map (AI.den ρ) := by
            cases hp : l.pending with
            | none => exact ⟨hk, hkp, rfl⟩
            | some c => exact ⟨AI.wfL_cons trivial hk, .cons (hg c hp fc.pl) hkp, rfl⟩
          refine (ih.frame fc _ fr _ ρ w' b a cs h1.real hB hk1.1 hk1.2.1 hF).imp fun ρ' r _ h => h.pre h1 (.one ?_)
          rw [hk1.2.2]
          exact stepR_endRangeFunc h2
        cases hs : l.state with
        | busy => trivial
        | ready => exact fin (by rw [hs]; simp)
        | done => exact fin (by rw [hs]; simp)
        | exhausted => exact fin (by rw [hs]; simp)
      · trivial
    | beginRound =>
      simp only [ev]
      split
      · rename_i id hro
        split
        · rename_i l hl
          cases hs : l.state with
          | ready =>
            obtain ⟨w', h1, h2⟩ := run_beginRound (P := P) hR hl hs
            have hr : b.roundOf = some (ρ.b id) := by rw [hB.ro, hro]; rfl
            exact (ih.frame fc k fr _ ρ w' b a cs h1.real hB hk hkp hF).imp fun ρ' r _ h => h.pre h1 (.one (stepR_beginRound hr h2))
          | busy => trivial
          | done => trivial
          | exhausted => trivial
        · trivial
      · trivial
    | code c =>
      cases c with
      | ret =>
        simp only [ev]
        exact ⟨ρ, .refl _ _, w, Step.refl hR, fr, _, rfl, fun hr => ⟨a, _, hF, .one (stepR_ret hr)⟩, fun _ => ⟨a, _, hF, ⟨_, rfl⟩, Steps.refl _ _⟩⟩
      | skip => simp only [ev]; exact go k hk hkp (.one stepR_skip)
      | label n => simp only [ev]; exact go k hk hkp (.one stepR_label)
      | seq x y => simp only [ev]; exact go (.code x :: .code y :: k) (AI.wfL_cons trivial (AI.wfL_cons trivial hk)) (by simp only [itemOk, codeOk, Bool.and_eq_true] at hx0; exact .cons hx0.1 (.cons hx0.2 hkp)) (.one stepR_seq)
      | block n c => simp only [ev]; exact go (.code c :: .inBlock n :: k) (AI.wfL_cons trivial (AI.wfL_cons trivial hk)) (.cons hx0 (.cons rfl hkp)) (.one stepR_block)
      | loop c => simp only [ev]; exact goL c k hk hkp hx0 (.one stepR_loop)
      | scope c => simp only [ev]; exact go (.code c :: .inScope c :: k) (AI.wfL_cons trivial (AI.wfL_cons trivial hk)) (.cons hx0 (.cons hx0 hkp)) (.one (step_lone_go (by simp [stepG, stepG.exec, Frame.atR, AI.den])))
      | exit n =>
        simp only [ev]
        split
        · rename_i k' h
          obtain ⟨h1, h2⟩ := aExit_spec (ρ := ρ) h hk
          exact go k' h2 (aExit_ok h hkp) (.one (stepR_exit h1))
        · rename_i h
          split
          · rename_i id hro
            have hr : b.roundOf ≠ none := by rw [hB.ro, hro]; simp
            exact ⟨ρ, .refl _ _, w, Step.refl hR, fr, _, rfl, fun h => absurd h hr, fun _ => ⟨a, _, hF, ⟨_, rfl, aExit_none h⟩, Steps.refl _ _⟩⟩
          · trivial
      | goto n =>
        simp only [ev]
        split
        · rename_i k' h
          obtain ⟨h1, h2⟩ := aGoto_spec (ρ := ρ) h hk
          exact go k' h2 (aGoto_ok h hkp) (.one (stepR_goto h1))
        · rename_i h
          split
          · rename_i id hro
            have hr : b.roundOf ≠ none := by rw [hB.ro, hro]; simp
            exact ⟨ρ, .refl _ _, w, Step.refl hR, fr, _, rfl, fun h => absurd h hr, fun _ => ⟨a, _, hF, ⟨_, rfl, aGoto_none h⟩, Steps.refl _ _⟩⟩
          · trivial
      | cond x y z =>
        simp only [ev]
        split
        · rename_i t ht
          obtain ⟨h1, h2⟩ := hF.ev x _ ht
          have hst : ∀ q : Bool, (t.den ρ != 0) = q → Steps P (lone (b.atR a (.code (.cond x y z) :: k.map (AI.den ρ))) cs w) (lone (b.atR a (.code (if q then y else z) :: k.map (AI.den ρ))) cs w) :=
            fun q hq => .one (stepR_cond (t := q) (by rw [h1]; simp only [V.den, hq]))
          split
          · rename_i q hq
            have := hst q (tv_sound hR.fc hq)
            have e : (bif q then y else z) = (if q then y else z) := by cases q <;> rfl
            rw [e]
            exact go (.code (if q then y else z) :: k) (AI.wfL_cons trivial hk) (.cons (by simp only [itemOk, codeOk, Bool.and_eq_true] at hx0 ⊢; cases q <;> simp [hx0.1, hx0.2]) hkp) this
          · refine ask_ok hR h2 (fun hq hs1 => ?_) (fun hq hs1 => ?_)
            · exact (ih.frame fc (.code y :: k) fr _ ρ w b a cs hs1.real hB (AI.wfL_cons trivial hk) (.cons (by simp only [itemOk, codeOk, Bool.and_eq_true] at hx0; exact hx0.1) hkp) hF).imp fun ρ' r _ h => h.pre hs1 (hst true hq)
            · exact (ih.frame fc (.code z :: k) fr _ ρ w b a cs hs1.real hB (AI.wfL_cons trivial hk) (.cons (by simp only [itemOk, codeOk, Bool.and_eq_true] at hx0; exact hx0.2) hkp) hF).imp fun ρ' r _ h => h.pre hs1 (hst false hq)
        · trivial
      | region id ops draw =>
        cases draw
        · simp only [ev]
          have h0 := ih.ops fc ops ops.toList fr st ρ w b noS a a (List.range ops.size) [] (k.map (AI.den ρ)) cs hR hB hF (.refl _ _) (range_map ops) (fun o _ => blind_noS _ o)
          rw [List.append_nil] at h0
          refine h0.bind fun ρ1 r ha hq => ?_
          obtain ⟨w1, hs1, fr1, a1, a1', hF1, hag, _, _, hq⟩ := hq
          obtain rfl := hag.eq
          rcases hq with ⟨e1, hst1⟩ | ⟨v, todo, e1, hv, hst1⟩
          · rw [e1]
            have hk1 := AI.wfL_mono hs1.nx hk
            have e2 : k.map (AI.den ρ) = k.map (AI.den ρ1) := AI.denL_agree hs1.agree hk
            have h1 := ih.frame fc k fr1 r.2 ρ1 w1 b a1 cs hs1.real (hB.agree hs1.agree hs1.nx) hk1 hkp hF1
            refine (h1.mono hs1.nx).imp fun ρ2 r2 _ h => h.pre hs1 ?_
            rw [← e2]
            exact .head stepR_region (hst1.trans (.one stepR_region_end))
          · rw [e1]
            exact ⟨ρ1, .refl _ _, w1, hs1, fr1, _, rfl, hv, a1, todo, hF1, .head stepR_region hst1⟩
        · simp only [ev]
          split
          · trivial
          · rename_i acts hacts
            have hok : planOk ops acts = true := by
              simp only [itemOk, codeOk] at hx0
              rw [hacts] at hx0
              exact hx0
            unfold planOk planOkC at hok
            simp only [Bool.and_eq_true] at hok
            obtain ⟨⟨ha1, ha2⟩, hrun⟩ := hok
            split at hrun
            · rename_i send hsend
              simp only [Bool.and_eq_true] at hrun
              obtain ⟨hgo, hall⟩ := hrun
              have hgo' : send.go = some none := by
                revert hgo
                cases send.go with
                | none => simp
                | some x => cases x <;> simp
              have hops : (mkPC ops acts).ops = ops := by unfold mkPC; rfl
              have hg : PGood (mkPC ops acts) := pgood ha1 ha2
              have hstep := stepR_region_draw (P := P) (b := b) (a := a) (cs := cs) (w := w) (ops := ops) (id := id) (k := k.map (AI.den ρ))
              rw [hM] at hstep
              have hadm := schedule_adm (ops := ops) (by rw [← hops]; exact down_of hg) (w.tape w.drawn (.order b.fn id))
              have hD : Step ρ st w ρ st { w with drawn := w.drawn + 1 } := Step.draw hR
              have hI : Inv P (mkPC ops acts) ρ st { w with drawn := w.drawn + 1 } pst0 (fun _ => False) (fun _ => (w, w, undef)) ρ st { w with drawn := w.drawn + 1 } { fr with t := dropDst ops acts fr.t } a a := inv_0 hD.real hF.drop
              have h0 := ih.plan fc (mkPC ops acts) acts { fr with t := dropDst ops acts fr.t } st ρ { w with drawn := w.drawn + 1 } b pst0 send (fun _ => False) (fun _ => (w, w, undef)) ρ st { w with drawn := w.drawn + 1 } a a
                (Region.schedule true ops (w.tape w.drawn (.order b.fn id))) (k.map (AI.den ρ)) cs hB hg hsend hgo' (fun i hi => List.all_eq_true.1 hall i (List.mem_range.2 hi)) hI (prom0 rfl rfl) (by rw [hops]; exact hadm)
              rw [hops] at h0
              refine h0.bind fun ρ1 r ha hq => ?_
              obtain ⟨w1, fr1, a1, hs1, e1, hF1, hst1⟩ := hq
              rw [e1]
              have hs1 := hD.trans hs1
              have hk1 := AI.wfL_mono hs1.nx hk
              have e2 : k.map (AI.den ρ) = k.map (AI.den ρ1) := AI.denL_agree hs1.agree hk
              have h1 := ih.frame fc k fr1 r.2 ρ1 w1 b a1 cs hs1.real (hB.agree hs1.agree hs1.nx) hk1 hkp hF1
              refine (h1.mono hs1.nx).imp fun ρ2 r2 _ h => h.pre hs1 ?_
              rw [← e2]
              exact .head hstep (hst1.trans (.one stepR_region_end))
            · simp at hrun
      | rangeFunc g ps assign body =>
        simp only [itemOk, codeOk, Bool.and_eq_true] at hx0
        simp only [ev]
        split
        · rename_i gf first caps hg
          obtain ⟨e1, v1⟩ := hF.ev g _ hg
          cases hbod : hasBody C gf
          · trivial
          · simp only [cond_true]
            split
            · rename_i id fr1 st1 hent
              obtain ⟨ρ1, w1, mark, s1, r1, hF1, hid⟩ := enterRF_ok (P := P) hR hB hF hx0.1 hx0.2 hent
              have hargs : V.wfL st1.nx (first ++ [.func (.yield id) [] []] ++ caps) := wfL_app (wfL_app (V.wfL_mono s1.nx v1.2.1) ⟨⟨hid, trivial, trivial⟩, trivial⟩) (V.wfL_mono s1.nx v1.2.2)
              have ea : V.denL ρ1 (first ++ [.func (.yield id) [] []] ++ caps) = V.denL ρ first ++ [.func (.yield (ρ1.b id)) #[] #[]] ++ V.denL ρ caps := by
                rw [denL_append, denL_append, V.denL_agree s1.agree v1.2.1, V.denL_agree s1.agree v1.2.2]
                rfl
              have hstep := stepR_rangeFunc (P := P) (b := b) (a := a) (k := k.map (AI.den ρ)) (cs := cs) (w := w) (g := g) (ps := ps) (assign := assign) (body := body) (w₁ := w1) (w₁' := w1) (w₂ := w1) (l := ρ1.b id) (mark := mark)
                (d := { target := .fn (.func gf) (V.denL ρ caps).toArray, args := (V.denL ρ first).toArray ++ #[.func (.yield (ρ1.b id)) #[] #[]] }) (f := gf) (args := (V.denL ρ1 (first ++ [.func (.yield id) [] []] ++ caps)).toArray) r1
                (by
                  have em : Array.map a.eval #[.const (.func (.yield (ρ1.b id)) #[] #[])] = #[.func (.yield (ρ1.b id)) #[] #[]] := by simp [Act.eval]
                  simp only [resolve, e1, V.den, AFn.den, Deferred.ofValue, em]; rfl)
                (by
                  have : (invoke (.fn (.func gf) (V.denL ρ caps).toArray) ((V.denL ρ first).toArray ++ #[.func (.yield (ρ1.b id)) #[] #[]])) = callFunc gf (V.denL ρ1 (first ++ [.func (.yield id) [] []] ++ caps)).toArray := by
                    rw [ea]; simp [invoke]
                  rw [this]
                  exact run_callFunc hC hbod _)
              have hcall := ih.call .normal gf _ st1 ρ1 w1 (b.atR { a with defers := mark ++ a.defers } (.inRangeFunc (ρ1.b id) :: k.map (AI.den ρ)) :: cs) s1.real hargs (.inl rfl)
              refine ((hcall.bind (f := fun r => _) fun ρ2 r _ hq => ?_).mono s1.nx).pre s1.agree
              obtain ⟨w2, s2, fr', _, hst, hq⟩ := hq
              rcases hq with ⟨v, e, hv, hl⟩ | ⟨v, e, hv, hl⟩
              · rw [e]
                dsimp only
                have s12 := s1.trans s2
                have hk2 : AI.wfL r.2.nx (.endRF id :: k) := AI.wfL_cons (Nat.lt_of_lt_of_le hid s2.nx) (AI.wfL_mono s12.nx hk)
                have h1 := ih.frame fc (.endRF id :: k) fr1 r.2 ρ2 w2 b { a with defers := mark ++ a.defers } cs s2.real (hB.agree s12.agree s12.nx) hk2 (.cons rfl hkp) (hF1.agree s2.agree s2.nx)
                refine (h1.mono s2.nx).imp fun ρ3 r3 _ h => h.pre s12 ?_
                have e2 : k.map (AI.den ρ) = k.map (AI.den ρ2) := AI.denL_agree s12.agree hk
                have e3 : ρ1.b id = ρ2.b id := (s2.agree id hid).2.1
                refine .head hstep (hst.trans (.one ?_))
                simp only [List.map_cons, AI.den]
                rw [← e2, ← e3, ← finish_atR_inRangeFunc (ρ1.b id) (v.den ρ2)]
                exact step_leave_returned hl
              · rw [e]; trivial
            · trivial
        · trivial
      | refuse _ => simp only [ev]; trivial

theorem sound_call {f : Nat} (hC : C.Ok P) (hPl : PlansOk C) (hSm : SumsOk P C) (ih : Sound C P f) : ∀ kd g args st ρ w cs, Real ρ st w → V.wfL st.nx args → KOk kd cs →
    Holds st.nx ρ (ev C (f + 1) (.call kd g args) st) (CallQ P kd cs (lone (Frame.enter P g (V.denL ρ args).toArray kd) cs w) g ρ st w) := by
  intro kd g args st ρ w cs hR hw hK
  simp only [ev]
  split
  · rename_i v st1 hsm
    unfold summ at hsm
    split at hsm
    · split at hsm
      · rename_i S hS
        obtain ⟨ρ1, w1, fr, h1, h2, h3, h4, h5⟩ := hSm g S hS ρ st w args v st1 cs hR hw hsm
        exact ⟨ρ1, h1.agree, w1, h1, fr, h3, h4, .inl ⟨v, rfl, h2, h5⟩⟩
      · simp at hsm
    · simp at hsm
  split
  · trivial
  · rename_i x hx
    obtain ⟨fn, h1, h2, h3, h4, h5⟩ := hC.fnOf hx
    let b : Frame := { (default : Frame) with fn := g, kind := kd }
    let a : Act := { tmps := (V.denL ρ args).toArray ++ Array.replicate (fn.ntmps - (V.denL ρ args).toArray.size) undef, defers := [] }
    have henter : Frame.enter P g (V.denL ρ args).toArray kd = b.atR a [.code x.code] := by
      simp [Frame.enter, Frame.atR, h1, h2, b, a]
      rfl
    rw [henter]
    have hF : FrOk ρ st.nx { t := initT args 0 .e, sz := Nat.add args.length (Nat.sub x.ntmps args.length), ds := [] } a :=
      ⟨initT_ok hw _, by simp [a, V.denL_eq, h4], rfl, by simp⟩
    have hB : BOk ρ st.nx ⟨g, kd, none, x.plans, none⟩ b cs := ⟨rfl, rfl, fun id h => by simp at h, rfl, hK⟩
    refine (ih.frame ⟨g, kd, none, x.plans, none⟩ [.code x.code] _ st ρ w b a cs hR hB (AI.wfL_cons trivial (by intro y hy; simp at hy)) (.cons (hPl g x hx) (by intro y hy; simp at hy)) hF).bind fun ρ1 r ha hq => ?_
    obtain ⟨w1, hs1, fr, o, e1, hout⟩ := hq
    rw [e1]
    dsimp only
    cases o with
    | leave j =>
      dsimp only
      obtain ⟨a1, todo, hF1, hst1⟩ := hout.1 rfl
      have hun := ih.unwind fr.ds r.2 ρ1 w1 b a1 todo cs hs1.real hF1.ds hF1.dw
      refine (hun.mono hs1.nx).bind fun ρ2 q ha2 hq => ?_
      obtain ⟨eq, w2, hs2, hst2⟩ := hq
      rw [eq]
      dsimp only
      split
      · rename_i l hl
        have hF2 := hF1.agree hs2.agree hs2.nx
        obtain ⟨r1, r2⟩ := doResults_run hC hs2.real hF2.t h5 hl
        exact ⟨ρ2, .refl _ _, w2, hs1.trans hs2, _, rfl, hst1.trans hst2, .inl ⟨_, rfl, r1, rfl, rfl, rfl, fn, h1, r2⟩⟩
      · trivial
    | panic v =>
      dsimp only
      split
      · rename_i hds
        obtain ⟨hv, a1, todo, hF1, hst1⟩ := hout
        refine ⟨ρ1, .refl _ _, w1, hs1, _, rfl, hst1, .inr ⟨_, rfl, hv, rfl, ?_, fn, h1⟩⟩
        show a1.defers = []
        rw [hF1.ds, hds]; rfl
      · trivial
    | hd t => trivial

theorem sound_unwind {f : Nat} (hC : C.Ok P) (ih : Sound C P f) : ∀ ds st ρ w (b : Frame) a todo cs, Real ρ st w → a.defers = ds.map (AD.den ρ) → (∀ d ∈ ds, d.wf st.nx) →
    Holds st.nx ρ (ev C (f + 1) (.unwind ds) st) (UnQ P b a todo cs ρ st w) := by
  intro ds st ρ w b a todo cs hR hds hdw
  cases ds with
  | nil =>
    simp only [ev]
    refine ⟨ρ, .refl _ _, rfl, w, Step.refl hR, ?_⟩
    have : ({ a with defers := [] } : Act) = a := by obtain ⟨t, d⟩ := a; simp only [List.map_nil] at hds; subst hds; rfl
    rw [this]
    exact Steps.refl _ _
  | cons d ds =>
    have hd := hdw d (List.mem_cons_self ..)
    have hdt : ∀ x ∈ ds, AD.wf st.nx x := fun x hx => hdw x (List.mem_cons_of_mem _ hx)
    have hm : ({ b.atR a todo with mode := .returning } : Frame).mode ≠ .run := by simp
    have hdf : ({ b.atR a todo with mode := .returning } : Frame).defers = d.den ρ :: ds.map (AD.den ρ) := hds
    cases d with
    | collected id =>
      simp only [ev]
      split
      · rename_i l hl
        obtain ⟨w1, s1, r1, hlw⟩ := run_takeDeferred (P := P) hR hl
        have h1 := step_collected (P := P) (cs := cs) hm hdf rfl r1
        have hun := ih.unwind (l ++ ds) _ ρ w1 b { a with defers := (l ++ ds).map (AD.den ρ) } todo cs s1.real rfl (by
          intro x hx
          rcases List.mem_append.1 hx with hx | hx
          · exact hlw x hx
          · exact hdt x hx)
        refine hun.imp fun ρ2 r _ hq => ?_
        obtain ⟨e, w2, s2, hst⟩ := hq
        refine ⟨e, w2, s1.trans s2, .head h1 ?_⟩
        rw [← List.map_append]
        exact hst
      · trivial
    | fn g caps args =>
      cases g with
      | yield id => simp only [ev]; trivial
      | fn g =>
        cases g with
        | func g =>
          simp only [ev]
          cases hbod : hasBody C g
          · trivial
          · simp only [cond_true]
            have hargs : V.wfL st.nx (args ++ caps) := wfL_app hd.2.2 hd.2.1
            have hinv : (invoke (AD.den ρ (.fn (.fn (.func g)) caps args)).target (AD.den ρ (.fn (.fn (.func g)) caps args)).args).run P w = .ok (.enter g (V.denL ρ (args ++ caps)).toArray) w := by
              have : (invoke (AD.den ρ (.fn (.fn (.func g)) caps args)).target (AD.den ρ (.fn (.fn (.func g)) caps args)).args) = callFunc g (V.denL ρ (args ++ caps)).toArray := by
                rw [denL_append]; simp [AD.den, AFn.den, invoke]
              rw [this]
              exact run_callFunc hC hbod _
            have h1 := step_defer (P := P) (cs := cs) hm hdf rfl hinv
            have hcall := ih.call .deferred g (args ++ caps) st ρ w ({ { b.atR a todo with mode := .returning } with defers := ds.map (AD.den ρ) } :: cs) hR hargs (.inr ⟨rfl, _, _, rfl, rfl⟩)
            refine hcall.bind fun ρ1 r _ hq => ?_
            obtain ⟨w1, s1, fr', _, hst, hq⟩ := hq
            rcases hq with ⟨v, e, hv, hl⟩ | ⟨v, e, hv, hl⟩
            · rw [e]
              dsimp only
              have h2 := step_going_returned (P := P) (c := { { b.atR a todo with mode := .returning } with defers := ds.map (AD.den ρ) }) (cs := cs) hl.2.2.1 (v := v.den ρ1) ⟨hl.1, hl.2.1, hl.2.2.2⟩
              have hun := ih.unwind ds r.2 ρ1 w1 b { a with defers := ds.map (AD.den ρ) } todo cs s1.real (List.map_congr_left fun x hx => AD.den_agree s1.agree (hdt x hx)) (fun x hx => AD.wf_mono s1.nx (hdt x hx))
              refine (hun.mono s1.nx).imp fun ρ2 r2 _ hq => ?_
              obtain ⟨e, w2, s2, hst2⟩ := hq
              exact ⟨e, w2, s1.trans s2, .head h1 (hst.trans (.head h2 hst2))⟩
            · rw [e]; trivial
        | method n => simp only [ev]; trivial
        | methodOf t n => simp only [ev]; trivial
        | yield n => simp only [ev]; trivial
        | via t p q r => simp only [ev]; trivial

theorem Env.agree_setI' {ρ : Env} {m n : Nat} {z : Int} (h : m ≤ n) : Env.agree m ρ (ρ.setI n z) := Env.agree.mono Env.agree_setI h
theorem oneRes_ok {n : Nat} {Q : Env → (Out × St) → Prop} {g : V × St → Res (Out × St)} {x : V × St} {ρ' : Env} (h : ∀ ρ1, Env.agree x.2.nx ρ' ρ1 → Holds n ρ1 (g x) Q) :
    ∀ {l : List (V × St)} {ρ0 : Env}, x ∈ l → Env.agree n ρ0 ρ' → Holds n ρ0 (oneRes n g l) Q
  | y :: l, ρ0, hx, h0 => by
    rcases List.mem_cons.1 hx with rfl | hx
    · refine ⟨ρ'.setI (Nat.add n x.2.nx) 1, h0.trans (Env.agree_setI' (Nat.le_add_right _ _)), fun _ => ?_, fun hc => by simp [Tm.den, Env.setI] at hc⟩
      exact h _ (Env.agree_setI' (Nat.le_add_left _ _))
    · exact ⟨ρ'.setI (Nat.add n y.2.nx) 0, h0.trans (Env.agree_setI' (Nat.le_add_right _ _)), fun hc => by simp [Tm.den, Env.setI] at hc, fun _ => oneRes_ok h hx (Env.agree.symm (Env.agree_setI' (Nat.le_add_right _ _)))⟩

theorem evOp_defer {t : Tr V} {o : Oper} {c : Call} (h : o.op = .defer c) : (∃ d, evOp C t st o = .defer d) ∨ ∃ n, evOp C t st o = .bad n := by
  unfold evOp
  rw [h]
  dsimp only
  unfold doDefer
  split
  · split
    · exact .inl ⟨_, rfl⟩
    · exact .inr ⟨_, rfl⟩
  · exact .inr ⟨_, rfl⟩

theorem sound_ops {f : Nat} (hC : C.Ok P) (ih : Sound C P f) : ∀ fc all l fr st ρ w (b : Frame) (S : Nat → Prop) a a' idx rs k cs, Real ρ st w → BOk ρ st.nx fc b cs → FrOk ρ st.nx fr a' → Agree S a a' → idx.map (fun i => all[i]?) = l.map some → (∀ o ∈ l, Blind S all o) →
    Holds st.nx ρ (ev C (f + 1) (.ops fc all l fr) st) (OpsQ P b cs (lone (b.atR a (.inRegion all (idx ++ rs) :: k)) cs w) all l rs k S a a' ρ st w) := by
  intro fc all l fr st ρ w b S a a' idx rs k cs hR hBk hF hA hidx hB
  cases l with
  | nil =>
    have : idx = [] := by simpa using hidx
    subst this
    simp only [ev]
    exact ⟨ρ, .refl _ _, w, Step.refl hR, fr, a, a', hF, hA, fun _ _ => rfl, fun _ _ => rfl, .inl ⟨rfl, Steps.refl _ _⟩⟩
  | cons o l =>
    cases idx with
    | nil => simp at hidx
    | cons i idx =>
    simp only [List.map_cons, List.cons.injEq] at hidx
    obtain ⟨ho, hidx'⟩ := hidx
    rw [List.cons_append]
    have hBo := (hB o (List.mem_cons_self ..)) a a' hA
    have next : ∀ (fr1 : Fr) (v : Value) (ρ1 : Env) (st1 : St) (w1 : World), Step ρ st w ρ1 st1 w1 → FrOk ρ1 st1.nx fr1 (a'.put o.dst v) →
        Steps P (lone (b.atR a (.inRegion all (i :: (idx ++ rs)) :: k)) cs w) (lone (b.atR (a.put o.dst v) (.inRegion all (idx ++ rs) :: k)) cs w1) →
        Holds st.nx ρ1 (ev C f (.ops fc all l fr1) st1) (OpsQ P b cs (lone (b.atR a (.inRegion all (i :: (idx ++ rs)) :: k)) cs w) all (o :: l) rs k S a a' ρ st w) := by
      intro fr1 v ρ1 st1 w1 hs hF1 hm
      refine ((ih.ops fc all l fr1 st1 ρ1 w1 b S _ _ idx rs k cs hs.real (hBk.agree hs.agree hs.nx) hF1 (hA.put o.dst v) hidx' (fun x hx => hB x (List.mem_cons_of_mem _ hx))).mono hs.nx).imp fun ρ2 r _ h => ?_
      obtain ⟨w2, hs2, fr2, a2, a2', g1, g2, g3, g4, g5⟩ := h
      have o1 : ∀ k, (∀ x ∈ o :: l, x.dst ≠ some k) → o.dst ≠ some k ∧ ∀ x ∈ l, x.dst ≠ some k := fun k hk => ⟨hk o (List.mem_cons_self ..), fun x hx => hk x (List.mem_cons_of_mem _ hx)⟩
      refine ⟨w2, hs.trans hs2, fr2, a2, a2', g1, g2, fun k hk => ?_, fun k hk => ?_, ?_⟩
      · rw [g3 k (o1 k hk).2, put_get_ne (o1 k hk).1]
      · rw [g4 k (o1 k hk).2, put_get_ne (o1 k hk).1]
      · rcases g5 with ⟨e, g5⟩ | ⟨v, todo, e, e2, g5⟩
        · exact .inl ⟨e, hm.trans g5⟩
        · exact .inr ⟨v, todo, e, e2, hm.trans g5⟩
    have again : ∀ (c : Tm), c.wf st.nx → Holds st.nx ρ (.fork c (ev C f (.ops fc all (o :: l) fr) (learnSt st c true)) (ev C f (.ops fc all (o :: l) fr) (learnSt st c false)))
        (OpsQ P b cs (lone (b.atR a (.inRegion all (i :: (idx ++ rs)) :: k)) cs w) all (o :: l) rs k S a a' ρ st w) := by
      intro c hc
      have pre : ∀ q, Step ρ st w ρ (learnSt st c q) w → Holds st.nx ρ (ev C f (.ops fc all (o :: l) fr) (learnSt st c q)) (OpsQ P b cs (lone (b.atR a (.inRegion all (i :: (idx ++ rs)) :: k)) cs w) all (o :: l) rs k S a a' ρ st w) := by
        intro q hs
        have := ih.ops fc all (o :: l) fr _ ρ w b S a a' (i :: idx) rs k cs hs.real hBk hF hA (by simp [ho, hidx']) hB
        refine this.imp fun ρ2 r _ h => ?_
        obtain ⟨w2, hs2, h⟩ := h
        exact ⟨w2, hs.trans hs2, h⟩
      exact ask_ok hR hc (fun _ hs => pre true hs) (fun _ hs => pre false hs)
    have hW := wanted_spec hR hF.t all o
    rw [← hBo.2] at hW
    simp only [ev]
    cases hwt : wanted st fr.t all o with
    | bad => trivial
    | ask c => rw [hwt] at hW; exact again c hW
    | no =>
      rw [hwt] at hW
      dsimp only
      split
      · rename_i fr1 hfr1
        have hF1 := setDst_ok hF (v := .tuple []) trivial hfr1
        refine next fr1 undef ρ st w (Step.refl hR) hF1 (.one ?_)
        have := stepR_op_skip (P := P) (b := b) (a := a) (k := k) (cs := cs) (w := w) (ops := all) (i := i) (rest := idx ++ rs) (by rw [ho]; exact hW)
        rw [ho] at this
        exact this
      · trivial
    | yes =>
      rw [hwt] at hW
      dsimp only
      have hE := evOp_ok hC hR hF.ev o
      rw [← hBo.1] at hE
      have hg := stepGR_op (P := P) (b := b) (a := a) (k := k) (cs := cs) (w := w) (rest := idx ++ rs) ho hW
      -- a deferred call in a round is not taken
      by_cases hdf : (∃ c, o.op = .defer c) ∧ ∃ id, fc.ro = some id
      · obtain ⟨⟨c, hc⟩, id, hro⟩ := hdf
        rcases evOp_defer (C := C) (st := st) (t := fr.t) hc with ⟨d, e⟩ | ⟨n, e⟩
        · rw [e]; simp only [hro]; trivial
        · rw [e]; trivial
      have hsem : Oper.semAt b.roundOf a.eval o = execOp a.eval o := by
        cases hro : fc.ro with
        | none => rw [hBk.ro, hro]; rfl
        | some id => exact Oper.semAt_eq _ _ _ fun c hc => hdf ⟨⟨c, hc⟩, id, hro⟩
      rw [hsem] at hg
      have hfin : ∀ v, (b.atR a (.inRegion all (i :: (idx ++ rs)) :: k)).finish v = b.atR (a.put o.dst v) (.inRegion all (idx ++ rs) :: k) := by
        intro v; rw [Frame.finish_atR, ho]; rfl
      cases hop : evOp C fr.t st o with
      | val v st1 =>
        rw [hop] at hE
        obtain ⟨ρ1, w1, hs, hv, hr⟩ := hE
        dsimp only
        split
        · rename_i fr1 hfr1
          have hF1 := setDst_ok (hF.agree hs.agree hs.nx) hv hfr1
          refine (next fr1 _ ρ1 st1 w1 hs hF1 (.one (step_lone_go ?_))).pre hs.agree
          rw [hg, ← hfin]; simp [stepG.apply, hr]
        · trivial
      | skip st1 =>
        rw [hop] at hE
        obtain ⟨ρ1, w1, hs, hr⟩ := hE
        dsimp only
        split
        · rename_i fr1 hfr1
          have hF1 := setDst_ok (hF.agree hs.agree hs.nx) (v := .tuple []) trivial hfr1
          refine (next fr1 undef ρ1 st1 w1 hs hF1 (.one (step_lone_go ?_))).pre hs.agree
          rw [hg, ← hfin]; simp [stepG.apply, hr]
        · trivial
      | call g args =>
        rw [hop] at hE
        obtain ⟨hw, hr⟩ := hE
        dsimp only
        have henter : step P (lone (b.atR a (.inRegion all (i :: (idx ++ rs)) :: k)) cs w) =
            .next (lone (Frame.enter P g (V.denL ρ args).toArray .normal) (b.atR a (.inRegion all (i :: (idx ++ rs)) :: k) :: cs) w) :=
          step_lone_go (by rw [hg]; simp [stepG.apply, hr, Frame.atR])
        refine (ih.call .normal g args st ρ w (b.atR a (.inRegion all (i :: (idx ++ rs)) :: k) :: cs) hR hw (.inl rfl)).bind fun ρ1 r _ hq => ?_
        obtain ⟨w1, hs, fr', _, hst, hq⟩ := hq
        rcases hq with ⟨v, e1, hv, hleave⟩ | ⟨v, e1, hv, hleave⟩
        · rw [e1]
          dsimp only
          split
          · rename_i fr1 hfr1
            have hF1 := setDst_ok (hF.agree hs.agree hs.nx) hv hfr1
            refine next fr1 _ ρ1 r.2 w1 hs hF1 (.head henter (hst.trans (.one ?_)))
            rw [← hfin]; exact step_leave_returned hleave
          · trivial
        · rw [e1]
          have hlast := step_leave_panicked (c := b.atR a (.inRegion all (i :: (idx ++ rs)) :: k)) (cs := cs) hleave
          rw [Frame.raise_atR] at hlast
          exact ⟨ρ1, .refl _ _, w1, hs, fr, a, a', hF.agree hs.agree hs.nx, hA, fun _ _ => rfl, fun _ _ => rfl, .inr ⟨v, .inRegion all (i :: (idx ++ rs)) :: k, rfl, hv, .head henter (hst.trans (.one hlast))⟩⟩
      | panic v =>
        rw [hop] at hE
        obtain ⟨hv, hr⟩ := hE
        refine ⟨ρ, .refl _ _, w, Step.refl hR, fr, a, a', hF, hA, fun _ _ => rfl, fun _ _ => rfl, .inr ⟨v, .inRegion all (i :: (idx ++ rs)) :: k, rfl, hv, .one (step_lone_go ?_)⟩⟩
        rw [hg, ← Frame.raise_atR]; simp [stepG.apply, hr, panics]
      | ask c => rw [hop] at hE; exact again c hE
      | oneOf vs =>
        rw [hop] at hE
        obtain ⟨v, st1, ρ1, w1, hmem, hs, hv, hr⟩ := hE
        dsimp only
        refine oneRes_ok (x := (v, st1)) (ρ' := ρ1) (fun ρ2 ha2 => ?_) hmem hs.agree
        dsimp only at ha2 ⊢
        split
        · rename_i fr1 hfr1
          have hs2 : Step ρ st w ρ2 st1 w1 := hs.trans (Step.extend hs.real ha2 (Nat.le_refl _))
          have hF1 := setDst_ok (hF.agree hs2.agree hs2.nx) hv hfr1
          refine next fr1 _ ρ2 st1 w1 hs2 hF1 (.one (step_lone_go ?_))
          rw [hg, ← hfin, ← V.den_agree ha2 hv]; simp [stepG.apply, hr]
        · trivial
      | defer d =>
        rw [hop] at hE
        obtain ⟨hd, hr⟩ := hE
        dsimp only
        split
        · rename_i hro
          split
          · rename_i fr1 hfr1
            have hF0 : FrOk ρ st.nx { fr with ds := d :: fr.ds } { a' with defers := d.den ρ :: a'.defers } :=
              ⟨hF.t, hF.sz, by simp only [List.map_cons]; rw [hF.ds], fun x hx => by
                rcases List.mem_cons.1 hx with rfl | hx
                · exact hd
                · exact hF.dw x hx⟩
            have hF1 := setDst_ok hF0 (v := .tuple []) trivial hfr1
            have hA1 : Agree S { a with defers := d.den ρ :: a.defers } { a' with defers := d.den ρ :: a'.defers } := ⟨by simp only; rw [hA.ds], hA.sz, hA.at_⟩
            refine ((ih.ops fc all l fr1 st ρ w b S _ _ idx rs k cs hR hBk hF1 (hA1.put o.dst undef) hidx' (fun x hx => hB x (List.mem_cons_of_mem _ hx)))).imp fun ρ2 r _ h => ?_
            obtain ⟨w2, hs2, fr2, a2, a2', g1, g2, g3, g4, g5⟩ := h
            have o1 : ∀ k, (∀ x ∈ o :: l, x.dst ≠ some k) → o.dst ≠ some k ∧ ∀ x ∈ l, x.dst ≠ some k := fun k hk => ⟨hk o (List.mem_cons_self ..), fun x hx => hk x (List.mem_cons_of_mem _ hx)⟩
            have hm : Steps P (lone (b.atR a (.inRegion all (i :: (idx ++ rs)) :: k)) cs w) (lone (b.atR (({ a with defers := d.den ρ :: a.defers } : Act).put o.dst undef) (.inRegion all (idx ++ rs) :: k)) cs w) := by
              refine .one (step_lone_go ?_)
              have hfin2 : (b.atR { a with defers := d.den ρ :: a.defers } (.inRegion all (i :: (idx ++ rs)) :: k)).finish undef = b.atR (({ a with defers := d.den ρ :: a.defers } : Act).put o.dst undef) (.inRegion all (idx ++ rs) :: k) := by
                rw [Frame.finish_atR, ho]; rfl
              rw [hg, ← hfin2]; simp [stepG.apply, hr, Frame.atR]
            refine ⟨w2, hs2, fr2, a2, a2', g1, g2, fun k hk => ?_, fun k hk => ?_, ?_⟩
            · rw [g3 k (o1 k hk).2, put_get_ne (o1 k hk).1]
            · rw [g4 k (o1 k hk).2, put_get_ne (o1 k hk).1]
            · rcases g5 with ⟨e, g5⟩ | ⟨v, todo, e, e2, g5⟩
              · exact .inl ⟨e, hm.trans g5⟩
              · exact .inr ⟨v, todo, e, e2, hm.trans g5⟩
          · trivial
        · trivial
      | recover =>
        rw [hop] at hE
        dsimp only
        split
        · rename_i hro
          split
          · rename_i fr1 hfr1
            have hF1 := setDst_ok hF (v := .nilIface) trivial hfr1
            have hbr : b.roundOf = none := by rw [hBk.ro, hro]; rfl
            have htr : tryRecover (b.atR a (.inRegion all (i :: (idx ++ rs)) :: k)) cs = none := by
              have hkd : (b.atR a (.inRegion all (i :: (idx ++ rs)) :: k)).kind = fc.kind := hBk.kd
              unfold tryRecover
              rw [hkd]
              rcases hBk.dk with h | ⟨h, c, cs', rfl, hm⟩
              · rw [h]
              · rw [h]; simp only [hm]
            refine next fr1 .nilIface ρ st w (Step.refl hR) hF1 (.one (step_lone_go ?_))
            rw [hg, ← hfin]
            have hE' : (execOp a.eval o).run P w = .ok .recover w := hE
            have hrr : (b.atR a (.inRegion all (i :: (idx ++ rs)) :: k)).roundOf = none := hbr
            simp [stepG.apply, hE', hrr, htr]
          · trivial
        · trivial
      | yield id args =>
        rw [hop] at hE
        obtain ⟨hid, hargs, hr⟩ := hE
        dsimp only
        split
        · rename_i lp hlp
          split
          · rename_i t ht
            obtain ⟨r0, q1, q2, q3⟩ := loop_at (P := P) hR (getLp_eq hlp)
            have hwf := (hR.obj id _ (getLp_eq hlp)).2.1
            obtain ⟨e1, e2, e3, e4, e5, e6, e7, e8, e9⟩ := q2
            have hT0 : TRel ρ st.nx lp.t r0.tmps := fun k v hk => ⟨e4 k v hk, hwf.1 k v hk⟩
            obtain ⟨p1, p2, p3⟩ := setParams_ok ht hT0 e5 hargs
            let bR : Frame := { (default : Frame) with fn := r0.fn, kind := .normal, roundOf := some (ρ.b id) }
            let aR : Act := { tmps := (lp.params.toList.zip (V.denL ρ args)).foldl (fun tmps (x : Nat × Value) => tmps.setIfInBounds x.1 x.2) r0.tmps, defers := [] }
            have hrun : (execOp a.eval o).run P w = .ok (.round (ρ.b id) r0.fn aR.tmps r0.assign r0.body) w := by
              rw [hr]
              have hsz : (V.denL ρ args).toArray.size = r0.params.size := by
                rw [e6]; simp [V.denL_eq]; rw [← p1]; simp
              have hfold : (r0.params.zip (V.denL ρ args).toArray).foldl (fun tmps (x : Nat × Value) => tmps.setIfInBounds x.1 x.2) r0.tmps = aR.tmps := by
                rw [e6, ← Array.foldl_toList]; simp [aR]
              simp only [Instr.yield, Sem.run_bind, q3, Result.andThen_ok, hsz, ne_eq, not_true_eq_false, if_false, Sem.run_pure]
              rw [← hfold]
            have hBR : BOk ρ st.nx ⟨lp.fn, .normal, some id, lp.pl, none⟩ bR (b.atR a (.inRegion all (i :: (idx ++ rs)) :: k) :: cs) :=
              ⟨e3, rfl, fun x hx => by simp at hx; subst hx; exact hid, rfl, .inl rfl⟩
            have hFR : FrOk ρ st.nx { t := t, sz := lp.sz, ds := [] } aR := ⟨p2, p3, rfl, by simp⟩
            have henter : step P (lone (b.atR a (.inRegion all (i :: (idx ++ rs)) :: k)) cs w) =
                .next (lone (bR.atR aR ([AI.code lp.assign, .beginRound, .code lp.body].map (AI.den ρ))) (b.atR a (.inRegion all (i :: (idx ++ rs)) :: k) :: cs) w) := by
              refine step_lone_go ?_
              rw [hg]
              simp [stepG.apply, hrun, Frame.atR, Frame.round, AI.den, e7, e8, bR, aR]
            refine (ih.frame ⟨lp.fn, .normal, some id, lp.pl, none⟩ [.code lp.assign, .beginRound, .code lp.body] _ st ρ w bR aR (b.atR a (.inRegion all (i :: (idx ++ rs)) :: k) :: cs) hR hBR
              (AI.wfL_cons trivial (AI.wfL_cons trivial (AI.wfL_cons trivial (by intro y hy; simp at hy)))) (.cons hwf.2.2.1 (.cons rfl (.cons hwf.2.2.2.1 (by intro y hy; simp at hy)))) hFR).bind fun ρ1 r _ hq => ?_
            obtain ⟨w1, hs, frR, oR, eR, hout⟩ := hq
            rw [eR]
            cases oR with
            | panic v => trivial
            | hd t => trivial
            | leave j =>
              dsimp only
              split
              · rename_i l2 hl2
                split
                · rename_i fr1 hfr1
                  obtain ⟨aL, todo, _, hla, hst⟩ := hout.2 (by simp [bR])
                  obtain ⟨w2, s2, r2⟩ := run_endRound (P := P) hs.real hl2 hla.ok
                  have hsb : ρ.b id = ρ1.b id := (hs.agree id hid).2.1
                  have hlast := step_leaveRound (P := P) (b := bR) (a := aL) (c := b.atR a (.inRegion all (i :: (idx ++ rs)) :: k)) (cs := cs) (l := ρ1.b id) hla (by simp [bR, hsb]) rfl r2
                  have s12 := hs.trans s2
                  have hF1 := setDst_ok (hF.agree s12.agree s12.nx) (v := .bool (.lit (b2i j.isNone))) trivial hfr1
                  have ev1 : (V.bool (.lit (b2i j.isNone))).den ρ1 = .bool j.isNone := by simp [V.den, Tm.den, b2i_ne]
                  refine next fr1 _ ρ1 _ w2 s12 hF1 (.head henter (hst.trans (.one ?_)))
                  rw [ev1, ← hfin]; exact hlast
                · trivial
              · trivial
          · trivial
        · trivial
      | bad n => trivial

theorem bif_some {α : Type} {b : Bool} {x y : α} (h : (bif b then some x else none) = some y) : b = true ∧ x = y := by cases b <;> simp_all
theorem sound_plan {f : Nat} (hC : C.Ok P) (ih : Sound C P f) : ∀ fc (c : PC) acts fr st ρ w (b : Frame) (s send : PSt) D κ ρ0 st0 w0 a a' sch k cs, BOk ρ st.nx fc b cs → PGood c → planRun c acts s = some send → send.go = some none → (∀ i, i < c.ops.size → bit send.E i = true) →
    Inv P c ρ0 st0 w0 s D κ ρ st w fr a a' → PMode P c s ρ st a' sch → Adm c.ops D sch →
    Holds st.nx ρ (ev C (f + 1) (.plan fc c.ops acts fr) st) (PlanQ P b cs (regM b cs c.ops k sch a w) c.ops k ρ0 st0 w0) := by
  intro fc c acts fr st ρ w b s send D κ ρ0 st0 w0 a a' sch k cs hB hg hrun hgo hall hI hM hA
  have hR := hI.stp.real
  cases acts with
  | nil =>
    simp only [planRun, Option.some.injEq] at hrun
    subst hrun
    unfold PMode at hM
    rw [hgo] at hM
    simp only at hM
    subst hM
    simp only [ev]
    cases hA with
    | nil hD =>
    have hag : Agree noS a a' := ⟨hI.agr.ds, hI.agr.sz, fun d _ => hI.agr.at_ d (by
      rintro ⟨i, hi, h⟩
      have hil := dstAt_lt hi
      rcases h with ⟨_, h⟩ | ⟨_, h⟩
      · exact h (hD i hil)
      · rw [hall i hil] at h; cases h)⟩
    obtain rfl := hag.eq
    exact ⟨ρ, .refl _ _, w, fr, a, hI.stp, rfl, hI.fro, Steps.refl _ _⟩
  | cons act l =>
    simp only [planRun] at hrun
    split at hrun
    case h_2 => simp at hrun
    rename_i s1 hs1
    have again : ∀ (d : Tm), s.go = none → d.wf st.nx → Holds st.nx ρ (.fork d (ev C f (.plan fc c.ops (act :: l) fr) (learnSt st d true)) (ev C f (.plan fc c.ops (act :: l) fr) (learnSt st d false)))
        (PlanQ P b cs (regM b cs c.ops k sch a w) c.ops k ρ0 st0 w0) := by
      intro d hgo1 hd
      have pre : ∀ q, Step ρ st w ρ (learnSt st d q) w → Holds st.nx ρ (ev C f (.plan fc c.ops (act :: l) fr) (learnSt st d q)) (PlanQ P b cs (regM b cs c.ops k sch a w) c.ops k ρ0 st0 w0) := by
        intro q hs
        refine ih.plan fc c (act :: l) fr (learnSt st d q) ρ w b s send D κ ρ0 st0 w0 a a' sch k cs hB hg (by simp only [planRun, hs1]; exact hrun) hgo hall (hI.learn hs rfl rfl) ?_ hA
        unfold PMode at hM ⊢
        rw [hgo1] at hM ⊢
        exact hM.learn rfl
      exact ask_ok hR hd (fun _ hs => pre true hs) (fun _ hs => pre false hs)
    have next : ∀ (fr1 : Fr) (a1' : Act), s1.go = none → Inv P c ρ0 st0 w0 s1 D κ ρ st w fr1 a a1' → Prom P c s1 ρ st a1' →
        Holds st.nx ρ (ev C f (.plan fc c.ops l fr1) st) (PlanQ P b cs (regM b cs c.ops k sch a w) c.ops k ρ0 st0 w0) := by
      intro fr1 a1' hg1 hI1 hP1
      refine ih.plan fc c l fr1 st ρ w b s1 send D κ ρ0 st0 w0 a a1' sch k cs hB hg hrun hgo hall hI1 ?_ hA
      unfold PMode; rw [hg1]; exact hP1
    have yes : ∀ (o : Oper) (v : V) (st' : St), Region.wanted o (yielded c.ops a'.tmps) = true → plainKind o = true → evOp C fr.t st o = .val v st' → v.wf st.nx ∧ OutN P c ρ st a' o (v.den ρ) := by
      intro o v st' hw hk hop
      have hst := evOp_plain hk hop
      subst hst
      have hE := evOp_ok hC hR hI.fro.ev o
      rw [hop] at hE
      obtain ⟨_, _, _, hv, _⟩ := hE
      refine ⟨hv, .inr ⟨hw, fun w1 h1 => ?_⟩⟩
      have hR1 := h1.ofBare hR
      have hE := evOp_ok hC hR1 hI.fro.ev o
      rw [hop] at hE
      obtain ⟨ρ1, w2, hs, hv, hr⟩ := hE
      exact ⟨w2, hs.names.toBare, by rw [V.den_agree hs.agree hv]; exact hr⟩
    have hW := fun o => wanted_spec hR hI.fro.t c.ops o
    cases act with
    | n i =>
      simp only [planStep, Bool.cond_eq_ite] at hs1
      split at hs1
      case isFalse => simp at hs1
      rename_i hc
      simp only [Bool.and_eq_true, List.all_eq_true, Option.isNone_iff_eq_none, Bool.not_eq_true'] at hc
      obtain ⟨⟨⟨c1, c2⟩, c3⟩, c4⟩ := hc
      simp only [Option.some.injEq] at hs1
      subst hs1
      unfold PMode at hM
      rw [c1] at hM
      simp only [ev]
      split
      · trivial
      rename_i o ho
      cases hwt : wanted st fr.t c.ops o with
      | bad => trivial
      | ask d => have := hW o; rw [hwt] at this; exact again d c1 this
      | no =>
        have hwf := hW o; rw [hwt] at hwf
        dsimp only
        split
        · rename_i fr1 hfr1
          obtain ⟨r1, r2⟩ := inv_n hg hI hM ho c2 c3 c4 (v := .tuple []) trivial hfr1 (.inl ⟨hwf, rfl⟩)
          exact next fr1 _ c1 r1 r2
        · trivial
      | yes =>
        have hwy := hW o; rw [hwt] at hwy
        dsimp only
        cases hk : plainKind o
        · trivial
        · simp only [cond_true]
          cases hop : evOp C fr.t st o with
          | val v st' =>
            dsimp only
            split
            · rename_i fr1 hfr1
              obtain ⟨hv, hout⟩ := yes o v st' hwy hk hop
              obtain ⟨r1, r2⟩ := inv_n hg hI hM ho c2 c3 c4 hv hfr1 hout
              exact next fr1 _ c1 r1 r2
            · trivial
          | ask d => have hE := evOp_ok hC hR hI.fro.ev o; rw [hop] at hE; exact again d c1 hE
          | _ => trivial
    | r i =>
      simp only [planStep, Bool.cond_eq_ite] at hs1
      split at hs1
      case isFalse => simp at hs1
      rename_i hc
      simp only [Bool.and_eq_true, Option.isNone_iff_eq_none] at hc
      obtain ⟨⟨c1, c2⟩, c3⟩ := hc
      simp only [Option.some.injEq] at hs1
      subst hs1
      unfold PMode at hM
      rw [c1] at hM
      simp only [ev]
      split
      · trivial
      rename_i o ho
      have same : ∀ v : V, sameDst fr o.dst v = true → ∀ d, o.dst = some d → a'.tmps[d]? = some (v.den ρ) := by
        intro v h d hd
        unfold sameDst at h
        rw [hd] at h
        simp only at h
        split at h
        · rename_i u hu
          rw [← V.beq_eq h]
          exact (hI.fro.t d u hu).1
        · simp at h
      cases hwt : wanted st fr.t c.ops o with
      | bad => trivial
      | ask d => trivial
      | no =>
        have hwf := hW o; rw [hwt] at hwf
        dsimp only
        cases hsm : sameDst fr o.dst (.tuple [])
        · trivial
        · obtain ⟨r1, r2⟩ := inv_r hI hM ho c2 c3 (u := undef) (fun d hd => same _ hsm d hd) (.inl ⟨hwf, rfl⟩)
          exact next fr _ c1 r1 r2
      | yes =>
        have hwy := hW o; rw [hwt] at hwy
        dsimp only
        cases hk : plainKind o
        · trivial
        · simp only [cond_true]
          cases hop : evOp C fr.t st o with
          | val v st' =>
            dsimp only
            cases hsm : sameDst fr o.dst v
            · trivial
            · obtain ⟨hv, hout⟩ := yes o v st' hwy hk hop
              obtain ⟨r1, r2⟩ := inv_r hI hM ho c2 c3 (same _ hsm) hout
              exact next fr _ c1 r1 r2
          | ask d => have hE := evOp_ok hC hR hI.fro.ev o; rw [hop] at hE; exact again d c1 hE
          | _ => trivial
    | g i =>
      simp only [planStep, Bool.cond_eq_ite] at hs1
      split at hs1
      case isFalse => simp at hs1
      rename_i hc
      simp only [Bool.and_eq_true, List.all_eq_true, Option.isNone_iff_eq_none, Bool.not_eq_true'] at hc
      obtain ⟨⟨⟨⟨c1, c2⟩, c3⟩, c4⟩, c5⟩ := hc
      simp only [Option.some.injEq] at hs1
      subst hs1
      unfold PMode at hM
      rw [c1] at hM
      simp only [ev]
      split
      · trivial
      rename_i o ho
      have hgu : o.guard = none := by
        unfold opAt at c5
        rw [ho] at c5
        simp only [Bool.and_eq_true, Option.isNone_iff_eq_none] at c5
        exact c5.1.1
      cases hop : evOp C fr.t (iso st) o with
      | val v st' =>
        dsimp only
        have hout : OutG P a' o := by
          intro w1
          have hE := evOp_ok hC (hR.iso w1) (t := fr.t) (ev := a'.eval) hI.fro.ev o
          rw [hop] at hE
          obtain ⟨ρ1, w2, hs, _, hr⟩ := hE
          exact ⟨_, w2, Grow.of_iso hs, hr⟩
        obtain ⟨r1, r2⟩ := inv_g hI hM ho c2 c4 hgu hout
        exact next fr _ c1 r1 r2
      | ask d => have hE := evOp_ok hC (hR.iso w) (t := fr.t) (ev := a'.eval) hI.fro.ev o; rw [hop] at hE; exact again d c1 hE
      | _ => trivial
    | go x =>
      simp only [planStep, Bool.cond_eq_ite] at hs1
      split at hs1
      case isFalse => simp at hs1
      rename_i hc
      simp only [Bool.and_eq_true, Option.isNone_iff_eq_none, Bool.not_eq_true', Nat.blt_eq] at hc
      obtain ⟨⟨⟨⟨c1, c2⟩, c3⟩, c4⟩, c5⟩ := hc
      simp only [Option.some.injEq] at hs1
      subst hs1
      unfold PMode at hM
      rw [c1] at hM
      simp only [ev]
      obtain ⟨D1, κ1, w1, a1, sch1, r1, r2, r3, r4, _⟩ := run_phase (k := k) (cs := cs) hg c5 (fun y hy => by cases hy; exact ⟨c2, c3, c4⟩) hM sch D κ w a hI hA
      refine (ih.plan fc c l fr st ρ w1 b _ send D1 κ1 ρ0 st0 w0 a1 a' sch1 k cs hB hg hrun hgo hall ⟨r1.stp, r1.fro, r1.agr, r1.ecl, r1.dcl, r1.dlt, r1.cx, r1.cg, r1.cn, r1.pend, r1.disj, r1.md⟩ ⟨r4 x rfl, c2⟩ r2).imp fun ρ2 r _ h => ?_
      obtain ⟨w2, fr2, a2, h1, h2, h3, h4⟩ := h
      exact ⟨w2, fr2, a2, h1, h2, h3, r3.trans h4⟩
    | fin =>
      simp only [planStep, Bool.cond_eq_ite] at hs1
      split at hs1
      case isFalse => simp at hs1
      rename_i hc
      simp only [Bool.and_eq_true, Option.isNone_iff_eq_none] at hc
      obtain ⟨c1, c5⟩ := hc
      simp only [Option.some.injEq] at hs1
      subst hs1
      unfold PMode at hM
      rw [c1] at hM
      simp only [ev]
      obtain ⟨D1, κ1, w1, a1, sch1, r1, r2, r3, _, r4⟩ := run_phase (k := k) (cs := cs) hg c5 (fun y hy => by cases hy) hM sch D κ w a hI hA
      refine (ih.plan fc c l fr st ρ w1 b _ send D1 κ1 ρ0 st0 w0 a1 a' sch1 k cs hB hg hrun hgo hall ⟨r1.stp, r1.fro, r1.agr, r1.ecl, r1.dcl, r1.dlt, r1.cx, r1.cg, r1.cn, r1.pend, r1.disj, r1.md⟩ (r4 rfl) r2).imp fun ρ2 r _ h => ?_
      obtain ⟨w2, fr2, a2, h1, h2, h3, h4⟩ := h
      exact ⟨w2, fr2, a2, h1, h2, h3, r3.trans h4⟩
    | b i =>
      simp only [planStep] at hs1
      split at hs1
      · simp at hs1
      rename_i nxt hnxt
      obtain ⟨hc, hs1⟩ := bif_some hs1
      simp only [Bool.and_eq_true, List.all_eq_true, Bool.not_eq_true'] at hc
      obtain ⟨⟨⟨c1, c2⟩, c3⟩, c4⟩ := hc
      subst hs1
      simp only [ev]
      split
      · trivial
      rename_i o ho
      cases hop : evOp C fr.t (iso st) o with
      | val v st' =>
        dsimp only
        split
        · rename_i fr1 hfr1
          have hD : D i := by
            cases nxt with
            | none =>
              unfold PMode at hM
              rw [hnxt] at hM
              simp only at hM
              subst hM
              cases hA with
              | nil h => exact h i (lt_ops ho)
            | some x =>
              unfold PMode at hM
              rw [hnxt] at hM
              obtain ⟨⟨rest, rfl⟩, _⟩ := hM
              cases hA with
              | cons h1 h2 h3 h4 => exact anc_edges (E := D) hg hI.dcl h1 h3 c3
          obtain ⟨ρ1, hag, hnx, hI1⟩ := inv_b hC hg hI ho c1 c2 hD c4 hop hfr1
          refine ((ih.plan fc c l fr1 _ ρ1 w b _ send D κ ρ0 st0 w0 a _ sch k cs (hB.agree hag hnx) hg hrun hgo hall hI1 ?_ hA).mono hnx).pre hag
          unfold PMode at hM ⊢
          rw [hnxt] at hM
          dsimp only
          rw [hnxt]
          cases nxt <;> exact hM
        · trivial
      | _ => trivial
    | x i =>
      simp only [planStep] at hs1
      split at hs1
      case h_2 => simp at hs1
      rename_i x hnxt
      simp only [Bool.cond_eq_ite] at hs1
      split at hs1
      case isFalse => simp at hs1
      rename_i hc
      simp only [Bool.and_eq_true, List.all_eq_true] at hc
      obtain ⟨c1, c4⟩ := hc
      have c1 := Nat.eq_of_beq_eq_true c1
      subst c1
      simp only [Option.some.injEq] at hs1
      subst hs1
      unfold PMode at hM
      rw [hnxt] at hM
      obtain ⟨⟨rest, rfl⟩, hX⟩ := hM
      simp only [ev]
      split
      · trivial
      rename_i o ho
      cases hA with
      | cons hi hnD hdd hA1 =>
      have hEi : bit s.E i = false := by
        cases h : bit s.E i
        · rfl
        · exact absurd ((hI.cx i hX).1 h) hnD
      have hbl : Blind (stale c s D) c.ops o := blind_of (hg.kind i o ho) (by rw [← looks_eq ho]; exact notStale hg hI hi c4 hdd (fun _ => hEi))
      have h0 := ih.ops fc c.ops [o] fr st ρ w b (stale c s D) a a' [i] rest k cs hR hB hI.fro hI.agr (by simp [ho]) (by intro y hy; simp at hy; subst hy; exact hbl)
      refine h0.bind fun ρ1 r ha hq => ?_
      obtain ⟨w1, hs1, fr1, a1, a1', g1, g2, g3, g4, g5⟩ := hq
      rcases g5 with ⟨e, g5⟩ | ⟨v, todo, e, _, _⟩
      · rw [e]
        dsimp only
        have hI1 := inv_x hg hI ho hX hnD c4 hdd hs1 g1 g2 g3 g4
        refine ((ih.plan fc c l fr1 r.2 ρ1 w1 b _ send _ κ ρ0 st0 w0 a1 a1' rest k cs (hB.agree hs1.agree hs1.nx) hg hrun hgo hall hI1 (prom0 rfl rfl) hA1).mono hs1.nx).imp fun ρ2 r2 _ h => ?_
        obtain ⟨w2, fr2, a2, h1, h2, h3, h4⟩ := h
        exact ⟨w2, fr2, a2, h1, h2, h3, Steps.trans g5 h4⟩
      · rw [e]; trivial

theorem sound {C : Ctx} {P : Program} (hC : C.Ok P) (hM : P.follows .mixedOrders = true) (hPl : PlansOk C) (hSm : SumsOk P C) : ∀ f, Sound C P f
  | 0 => ⟨fun _ _ _ _ _ _ _ _ _ _ _ _ _ _ _ _ _ _ _ _ _ _ _ _ _ _ _ _ => trivial, fun _ _ _ _ _ _ _ _ _ _ _ _ _ _ => trivial, fun _ _ _ _ _ _ _ _ _ _ _ _ _ _ _ _ _ _ _ _ _ => trivial, fun _ _ _ _ _ _ _ _ _ _ => trivial, fun _ _ _ _ _ _ _ _ _ _ _ => trivial⟩
  | f + 1 => ⟨sound_plan hC (sound hC hM hPl hSm f), sound_frame hC hM (sound hC hM hPl hSm f), sound_ops hC (sound hC hM hPl hSm f), sound_call hC hPl hSm (sound hC hM hPl hSm f), sound_unwind hC (sound hC hM hPl hSm f)⟩
end
end Go.Sx
