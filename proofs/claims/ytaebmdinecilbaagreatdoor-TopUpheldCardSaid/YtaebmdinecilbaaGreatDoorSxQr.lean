/- The evaluator's steps, laid out for the kernel; the same answers as ev's. -/
import Derived.Test.YtaebmdinecilbaaGreatDoorSxQk
namespace Go.Sx
open Go
set_option linter.unusedVariables false

abbrev RR := Res (Out × St)
abbrev KK := Job → St → RR

def qResults (C : Ctx) (t : Tr V) (q : St) (l : Option (List V)) : RR := match l with
  | some l => .ok (.call (.ret (resTup l)), q)
  | none => .bad 1002
def qUn (C : Ctx) (x : FnI) (t : Tr V) (q : Out × St) : RR := match q.1 with
  | .un => qResults C t q.2 (doResults C q.2 t x.results)
  | _ => .bad 1018
def qLeft (C : Ctx) (ih : KK) (x : FnI) (st : St) (fr : Fr) (o : FOut) : RR := match o with
  | .leave _ => (ih (.unwind fr.ds) st).bind (qUn C x fr.t)
  | .panic v => match fr.ds with
    | [] => .ok (.call (.panic v), st)
    | _ => .bad 1003
  | .hd _ => .bad 1072
def qBack (C : Ctx) (ih : KK) (x : FnI) (r : Out × St) : RR := match r.1 with
  | .frame fr o => qLeft C ih x r.2 fr o
  | _ => .bad 1004
def qEnter (C : Ctx) (ih : KK) (k : CallKind) (g : Nat) (args : List V) (st : St) (x : Option FnI) : RR := match x with
  | none => .bad 1001
  | some x => (ih (.frame ⟨g, k, none, x.plans, none⟩ [.code x.code] { t := initT args 0 .e, sz := Nat.add args.length (Nat.sub x.ntmps args.length), ds := [] }) st).bind (qBack C ih x)
def qCall (k : CallKind) (g : Nat) (args : List V) (C : Ctx) (ih : KK) (st : St) : RR := match summ C k g args st with
  | some (v, st1) => .ok (.call (.ret v), st1)
  | none => qEnter C ih k g args st (C.fn.get g)

def qUnw1 (ih : KK) (st : St) (ds : List AD) (id : Nat) (o : Option Ob) : RR := match o with
  | some (.deferred (some l)) => ih (.unwind (l ++ ds)) { st with h := st.h.set id (.deferred none) }
  | _ => .bad 1050
def qUnw2 (ih : KK) (ds : List AD) (r : Out × St) : RR := match r.1 with
  | .call (.ret _) => ih (.unwind ds) r.2
  | _ => .bad 1051
def qUnwind (ds : List AD) (C : Ctx) (ih : KK) (st : St) : RR := match ds with
  | [] => .ok (.un, st)
  | .collected id :: ds => qUnw1 ih st ds id (st.h.get id)
  | .fn (.fn (.func g)) caps args :: ds => bif hasBody C g then (ih (.call .deferred g (args ++ caps)) st).bind (qUnw2 ih ds) else .bad 1052
  | _ => .bad 1053

def qLoop (c : Code) (fc : FC) (k : List AI) (fr : Fr) (ih : KK) (st : St) : RR := match fc.lim with
  | none => ih (.frame fc (.code c :: .inLoop c :: k) fr) st
  | some 0 => .ok (.frame fr (.hd (.code c :: .inLoop c :: k)), st)
  | some (n + 1) => ih (.frame { fc with lim := some n } (.code c :: .inLoop c :: k) fr) st
def qBegin (fc : FC) (k : List AI) (fr : Fr) (ih : KK) (st : St) : RR := match fc.ro with
  | some id => match getLp st id with
    | some l => match l.state with
      | .ready => ih (.frame fc k fr) (setLp st id { l with state := .busy })
      | _ => .bad 1060
    | none => .bad 1061
  | none => .bad 1062
def qEndRF (id : Nat) (fc : FC) (k : List AI) (fr : Fr) (ih : KK) (st : St) : RR := match getLp st id with
  | some l => match l.state with
    | .busy => .bad 1005
    | _ => ih (.frame fc (jumpItems l.pending k) fr) (setLp st id { l with state := .exhausted })
  | none => .bad 1063
def qExit (n : Nat) (fc : FC) (k : List AI) (fr : Fr) (ih : KK) (st : St) : RR := match aExit n k with
  | some k' => ih (.frame fc k' fr) st
  | none => match fc.ro with
    | some _ => .ok (.frame fr (.leave (some (.exit n))), st)
    | none => .bad 1006
def qGoto (n : Nat) (fc : FC) (k : List AI) (fr : Fr) (ih : KK) (st : St) : RR := match aGoto n k with
  | some k' => ih (.frame fc k' fr) st
  | none => match fc.ro with
    | some _ => .ok (.frame fr (.leave (some (.goto n))), st)
    | none => .bad 1007
def qCond1 (t : Tm) (a b : Code) (fc : FC) (k : List AI) (fr : Fr) (ih : KK) (st : St) (q : Option Bool) : RR := match q with
  | some q => ih (.frame fc (.code (bif q then a else b) :: k) fr) st
  | none => .fork t (ih (.frame fc (.code a :: k) fr) (learnSt st t true)) (ih (.frame fc (.code b :: k) fr) (learnSt st t false))
def qCond (a b : Code) (fc : FC) (k : List AI) (fr : Fr) (ih : KK) (st : St) (v : Option V) : RR := match v with
  | some (.bool t) => qCond1 t a b fc k fr ih st (tv st.fc t)
  | _ => .bad 1008
def qReg1 (fc : FC) (k : List AI) (ih : KK) (r : Out × St) : RR := match r.1 with
  | .ops fr => ih (.frame fc k fr) r.2
  | _ => .bad 1021
noncomputable def qReg (ops : Array Oper) (fc : FC) (k : List AI) (fr : Fr) (ih : KK) (st : St) (a : Option (List PA)) : RR := match a with
  | none => .bad 1019
  | some acts => (ih (.plan fc ops acts { fr with t := dropDst ops acts fr.t }) st).bind (qReg1 fc k ih)
def qOpsR (fc : FC) (k : List AI) (ih : KK) (r : Out × St) : RR := match r.1 with
  | .ops fr => ih (.frame fc k fr) r.2
  | .frame fr (.panic v) => .ok (.frame fr (.panic v), r.2)
  | _ => .bad 1020
def qRF3 (fc : FC) (id : Nat) (k : List AI) (fr1 : Fr) (ih : KK) (r : Out × St) : RR := match r.1 with
  | .call (.ret _) => ih (.frame fc (.endRF id :: k) fr1) r.2
  | _ => .bad 1009
def qRF2 (gf : Nat) (first caps : List V) (fc : FC) (k : List AI) (ih : KK) (e : Option (Nat × Fr × St)) : RR := match e with
  | some (id, fr1, st1) => (ih (.call .normal gf (first ++ [.func (.yield id) [] []] ++ caps)) st1).bind (qRF3 fc id k fr1 ih)
  | none => .bad 1064
def qRF (ps : Array Tmp) (assign body : Code) (C : Ctx) (fc : FC) (k : List AI) (fr : Fr) (ih : KK) (st : St) (v : Option V) : RR := match v with
  | some (.func (.fn (.func gf)) first caps) => bif hasBody C gf then qRF2 gf first caps fc k ih (enterRF fc fr ps assign body st) else .bad 1065
  | _ => .bad 1066
noncomputable def qCode (c : Code) (C : Ctx) (fc : FC) (k : List AI) (fr : Fr) (ih : KK) (st : St) : RR := match c with
  | .ret => .ok (.frame fr (.leave (some .ret)), st)
  | .skip => ih (.frame fc k fr) st
  | .label _ => ih (.frame fc k fr) st
  | .seq a b => ih (.frame fc (.code a :: .code b :: k) fr) st
  | .block n c => ih (.frame fc (.code c :: .inBlock n :: k) fr) st
  | .loop c => qLoop c fc k fr ih st
  | .scope c => ih (.frame fc (.code c :: .inScope c :: k) fr) st
  | .exit n => qExit n fc k fr ih st
  | .goto n => qGoto n fc k fr ih st
  | .cond x a b => qCond a b fc k fr ih st (opndq fr.t x)
  | .region id ops true => qReg ops fc k fr ih st (fc.pl.get id)
  | .region _ ops false => (ih (.ops fc ops ops.toList fr) st).bind (qOpsR fc k ih)
  | .rangeFunc g ps assign body => qRF ps assign body C fc k fr ih st (opndq fr.t g)
  | .refuse _ => .bad 1010
noncomputable def qItem (x : AI) (C : Ctx) (fc : FC) (k : List AI) (fr : Fr) (ih : KK) (st : St) : RR := match x with
  | .inBlock _ => ih (.frame fc k fr) st
  | .inScope _ => ih (.frame fc k fr) st
  | .inLoop c => qLoop c fc k fr ih st
  | .beginRound => qBegin fc k fr ih st
  | .endRF id => qEndRF id fc k fr ih st
  | .code c => qCode c C fc k fr ih st
noncomputable def qFrame (fc : FC) (todo : List AI) (fr : Fr) (C : Ctx) (ih : KK) (st : St) : RR := match todo with
  | [] => .ok (.frame fr (.leave none), st)
  | x :: k => qItem x C fc k fr ih st

def qPut (fc : FC) (all : Array Oper) (l : List Oper) (ih : KK) (st : St) (n : Nat) (fr : Option Fr) : RR := match fr with
  | some fr => ih (.ops fc all l fr) st
  | none => .bad n
noncomputable def qRet (fc : FC) (all : Array Oper) (o : Oper) (l : List Oper) (fr : Fr) (ih : KK) (r : Out × St) : RR := match r.1 with
  | .call (.ret v) => qPut fc all l ih r.2 1015 (setDstq fr o.dst v)
  | .call (.panic v) => .ok (.frame fr (.panic v), r.2)
  | _ => .bad 1016
noncomputable def qOne (fc : FC) (all : Array Oper) (o : Oper) (l : List Oper) (fr : Fr) (ih : KK) (x : V × St) : RR :=
  qPut fc all l ih x.2 1054 (setDstq fr o.dst x.1)
noncomputable def qDefer (fc : FC) (all : Array Oper) (o : Oper) (l : List Oper) (fr : Fr) (ih : KK) (st : St) (d : AD) : RR := match fc.ro with
  | none => qPut fc all l ih st 1056 (setDstq { fr with ds := d :: fr.ds } o.dst (.tuple []))
  | some _ => .bad 1057
noncomputable def qRecover (fc : FC) (all : Array Oper) (o : Oper) (l : List Oper) (fr : Fr) (ih : KK) (st : St) : RR := match fc.ro with
  | none => qPut fc all l ih st 1058 (setDstq fr o.dst .nilIface)
  | some _ => .bad 1059
noncomputable def qYield1 (fc : FC) (all : Array Oper) (o : Oper) (l : List Oper) (fr : Fr) (ih : KK) (id : Nat) (r : Out × St) : RR := match r.1 with
  | .frame _ (.leave j) => match getLp r.2 id with
    | some l2 => qPut fc all l ih (setLp r.2 id { l2 with state := roundState j, pending := j }) 1067 (setDstq fr o.dst (.bool (.lit (b2i j.isNone))))
    | none => .bad 1068
  | _ => .bad 1069
noncomputable def qYield (fc : FC) (all : Array Oper) (o : Oper) (l : List Oper) (fr : Fr) (ih : KK) (st : St) (id : Nat) (args : List V) : RR := match getLp st id with
  | some lp => match setParams lp.sz lp.params.toList args lp.t with
    | some t => (ih (.frame ⟨lp.fn, .normal, some id, lp.pl, none⟩ [.code lp.assign, .beginRound, .code lp.body] { t := t, sz := lp.sz, ds := [] }) st).bind (qYield1 fc all o l fr ih id)
    | none => .bad 1070
  | none => .bad 1071
def qAsk (fc : FC) (all : Array Oper) (o : Oper) (l : List Oper) (fr : Fr) (ih : KK) (st : St) (c : Tm) : RR :=
  .fork c (ih (.ops fc all (o :: l) fr) (learnSt st c true)) (ih (.ops fc all (o :: l) fr) (learnSt st c false))
noncomputable def qOpR (fc : FC) (all : Array Oper) (o : Oper) (l : List Oper) (fr : Fr) (ih : KK) (st : St) (r : OpR) : RR := match r with
  | .val v st => qPut fc all l ih st 1013 (setDstq fr o.dst v)
  | .skip st => qPut fc all l ih st 1014 (setDstq fr o.dst (.tuple []))
  | .call g args => (ih (.call .normal g args) st).bind (qRet fc all o l fr ih)
  | .ask c => qAsk fc all o l fr ih st c
  | .panic v => .ok (.frame fr (.panic v), st)
  | .oneOf vs => oneRes st.nx (qOne fc all o l fr ih) vs
  | .defer d => qDefer fc all o l fr ih st d
  | .recover => qRecover fc all o l fr ih st
  | .yield id args => qYield fc all o l fr ih st id args
  | .bad n => .bad n
noncomputable def qWant (fc : FC) (all : Array Oper) (o : Oper) (l : List Oper) (fr : Fr) (C : Ctx) (ih : KK) (st : St) (w : Wanted) : RR := match w with
  | .bad => .bad 1011
  | .ask c => qAsk fc all o l fr ih st c
  | .no => qPut fc all l ih st 1012 (setDstq fr o.dst (.tuple []))
  | .yes => qOpR fc all o l fr ih st (evOpq C fr.t st o)
noncomputable def qOps (fc : FC) (all : Array Oper) (l : List Oper) (fr : Fr) (C : Ctx) (ih : KK) (st : St) : RR := match l with
  | [] => .ok (.ops fr, st)
  | o :: l => qWant fc all o l fr C ih st (wantedq st fr.t all o)

def qpAsk (fc : FC) (all : Array Oper) (l : List PA) (fr : Fr) (ih : KK) (st : St) (c : Tm) : RR :=
  .fork c (ih (.plan fc all l fr) (learnSt st c true)) (ih (.plan fc all l fr) (learnSt st c false))
def qpPut (fc : FC) (all : Array Oper) (l : List PA) (ih : KK) (st : St) (n : Nat) (fr : Option Fr) : RR := match fr with
  | some fr => ih (.plan fc all l fr) st
  | none => .bad n
noncomputable def qN2 (fc : FC) (all : Array Oper) (i : Nat) (l : List PA) (o : Oper) (fr : Fr) (ih : KK) (st : St) (r : OpR) : RR := match r with
  | .val v _ => qpPut fc all l ih st 1033 (setDstq fr o.dst v)
  | .ask c => qpAsk fc all (.n i :: l) fr ih st c
  | .bad n => .bad n
  | _ => .bad 1034
noncomputable def qN1 (fc : FC) (all : Array Oper) (i : Nat) (l : List PA) (o : Oper) (fr : Fr) (C : Ctx) (ih : KK) (st : St) (w : Wanted) : RR := match w with
  | .bad => .bad 1031
  | .ask c => qpAsk fc all (.n i :: l) fr ih st c
  | .no => qpPut fc all l ih st 1032 (setDstq fr o.dst (.tuple []))
  | .yes => bif plainq o.op then qN2 fc all i l o fr ih st (evOpq C fr.t st o) else .bad 1035
noncomputable def qN (fc : FC) (all : Array Oper) (i : Nat) (l : List PA) (fr : Fr) (C : Ctx) (ih : KK) (st : St) (o : Option Oper) : RR := match o with
  | none => .bad 1030
  | some o => qN1 fc all i l o fr C ih st (wantedq st fr.t all o)
def qR2 (fc : FC) (all : Array Oper) (i : Nat) (l : List PA) (o : Oper) (fr : Fr) (ih : KK) (st : St) (r : OpR) : RR := match r with
  | .val v _ => bif sameDst fr o.dst v then ih (.plan fc all l fr) st else .bad 1040
  | .ask c => qpAsk fc all (.r i :: l) fr ih st c
  | .bad n => .bad n
  | _ => .bad 1041
noncomputable def qR1 (fc : FC) (all : Array Oper) (i : Nat) (l : List PA) (o : Oper) (fr : Fr) (C : Ctx) (ih : KK) (st : St) (w : Wanted) : RR := match w with
  | .bad => .bad 1037
  | .ask _ => .bad 1038
  | .no => bif sameDst fr o.dst (.tuple []) then ih (.plan fc all l fr) st else .bad 1039
  | .yes => bif plainq o.op then qR2 fc all i l o fr ih st (evOpq C fr.t st o) else .bad 1042
noncomputable def qR (fc : FC) (all : Array Oper) (i : Nat) (l : List PA) (fr : Fr) (C : Ctx) (ih : KK) (st : St) (o : Option Oper) : RR := match o with
  | none => .bad 1036
  | some o => qR1 fc all i l o fr C ih st (wantedq st fr.t all o)
def qG1 (fc : FC) (all : Array Oper) (i : Nat) (l : List PA) (fr : Fr) (ih : KK) (st : St) (r : OpR) : RR := match r with
  | .val _ _ => ih (.plan fc all l fr) st
  | .ask c => qpAsk fc all (.g i :: l) fr ih st c
  | .bad n => .bad n
  | _ => .bad 1044
noncomputable def qG (fc : FC) (all : Array Oper) (i : Nat) (l : List PA) (fr : Fr) (C : Ctx) (ih : KK) (st : St) (o : Option Oper) : RR := match o with
  | none => .bad 1043
  | some o => qG1 fc all i l fr ih st (evOpq C fr.t (iso st) o)
noncomputable def qB1 (fc : FC) (all : Array Oper) (l : List PA) (o : Oper) (fr : Fr) (ih : KK) (st : St) (r : OpR) : RR := match r with
  | .val v st' => qpPut fc all l ih (bindNew st st') 1046 (setDstq fr o.dst v)
  | .bad n => .bad n
  | _ => .bad 1047
noncomputable def qB (fc : FC) (all : Array Oper) (l : List PA) (fr : Fr) (C : Ctx) (ih : KK) (st : St) (o : Option Oper) : RR := match o with
  | none => .bad 1045
  | some o => qB1 fc all l o fr ih st (evOpq C fr.t (iso st) o)
def qX1 (fc : FC) (all : Array Oper) (l : List PA) (ih : KK) (r : Out × St) : RR := match r.1 with
  | .ops fr => ih (.plan fc all l fr) r.2
  | _ => .bad 1049
def qX (fc : FC) (all : Array Oper) (l : List PA) (fr : Fr) (ih : KK) (st : St) (o : Option Oper) : RR := match o with
  | none => .bad 1048
  | some o => (ih (.ops fc all [o] fr) st).bind (qX1 fc all l ih)
noncomputable def qPlan (fc : FC) (all : Array Oper) (acts : List PA) (fr : Fr) (C : Ctx) (ih : KK) (st : St) : RR := match acts with
  | [] => .ok (.ops fr, st)
  | .go _ :: l => ih (.plan fc all l fr) st
  | .fin :: l => ih (.plan fc all l fr) st
  | .n i :: l => qN fc all i l fr C ih st all[i]?
  | .r i :: l => qR fc all i l fr C ih st all[i]?
  | .g i :: l => qG fc all i l fr C ih st all[i]?
  | .b i :: l => qB fc all l fr C ih st all[i]?
  | .x i :: l => qX fc all l fr ih st all[i]?

noncomputable def stepq (C : Ctx) (ih : KK) (j : Job) (st : St) : RR :=
  Job.rec (motive := fun _ => Ctx → KK → St → RR) qPlan qFrame qOps qCall qUnwind j C ih st
noncomputable def evq (C : Ctx) (n : Nat) : Job → St → RR :=
  Nat.rec (motive := fun _ => KK) (fun _ _ => .bad 1000) (fun _ ih j st => stepq C ih j st) n
end Go.Sx
