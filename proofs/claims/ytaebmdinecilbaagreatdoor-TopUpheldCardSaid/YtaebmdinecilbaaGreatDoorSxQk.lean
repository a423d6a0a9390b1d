/- The evaluator again, laid out for the kernel: the same steps, but each match stands in a small function of its own, so that little is copied at each step. -/
import Derived.Test.YtaebmdinecilbaaGreatDoorSxMv
namespace Go.Sx
open Go
set_option linter.unusedVariables false

noncomputable def Tr.getq {α : Type} (t : Tr α) : Nat → Option α :=
  Tr.rec (motive := fun _ => Nat → Option α) (fun _ => none) (fun v _ _ gl gr k => Bool.rec (Bool.rec (gr (hf k)) (gl (hf k)) (lf k)) v (Nat.beq k 0)) t
theorem Tr.getq_eq {α : Type} : @Tr.getq α = @Tr.get α := by
  funext t
  induction t with
  | e => funext k; rfl
  | n v l r ihl ihr =>
    funext k
    show (Bool.rec (Bool.rec (Tr.getq r (hf k)) (Tr.getq l (hf k)) (lf k)) v (Nat.beq k 0) : Option α) = _
    rw [ihl, ihr]
    simp only [Tr.get]
    cases Nat.beq k 0 <;> cases lf k <;> rfl
noncomputable def Tr.leafq {α : Type} : Nat → Nat → Option α → Tr α :=
  fun f => Nat.rec (motive := fun _ => Nat → Option α → Tr α) (fun _ _ => .e) (fun _ ih k a => Bool.rec (Bool.rec (.n none .e (ih (hf k) a)) (.n none (ih (hf k) a) .e) (lf k)) (.n a .e .e) (Nat.beq k 0)) f
theorem Tr.leafq_eq {α : Type} : ∀ (f k : Nat) (a : Option α), Tr.leafq f k a = Tr.setF f .e k a
  | 0, _, _ => by simp only [Tr.setF]; rfl
  | f + 1, k, a => by
    show (Bool.rec (Bool.rec (.n none .e (Tr.leafq f (hf k) a)) (.n none (Tr.leafq f (hf k) a) .e) (lf k)) (.n a .e .e) (Nat.beq k 0) : Tr α) = _
    rw [Tr.leafq_eq f]
    simp only [Tr.setF]
    cases Nat.beq k 0 <;> cases lf k <;> rfl
noncomputable def Tr.setFq {α : Type} (t : Tr α) : Nat → Nat → Option α → Tr α :=
  Tr.rec (motive := fun _ => Nat → Nat → Option α → Tr α) Tr.leafq (fun v l r sl sr f k a => Nat.rec (motive := fun _ => Tr α) .e (fun f _ => Bool.rec (Bool.rec (.n v l (sr f (hf k) a)) (.n v (sl f (hf k) a) r) (lf k)) (.n a l r) (Nat.beq k 0)) f) t
theorem Tr.setFq_eq {α : Type} (t : Tr α) : ∀ (f k : Nat) (a : Option α), Tr.setFq t f k a = Tr.setF f t k a := by
  induction t with
  | e => exact fun f k a => Tr.leafq_eq f k a
  | n v l r ihl ihr =>
    intro f k a
    cases f with
    | zero => simp only [Tr.setF]; rfl
    | succ f =>
      show (Bool.rec (Bool.rec (.n v l (Tr.setFq r f (hf k) a)) (.n v (Tr.setFq l f (hf k) a) r) (lf k)) (.n a l r) (Nat.beq k 0) : Tr α) = _
      rw [ihl, ihr]
      simp only [Tr.setF]
      cases Nat.beq k 0 <;> cases lf k <;> rfl
noncomputable def Tr.setq {α : Type} (t : Tr α) (k : Nat) (a : α) : Tr α := Tr.setFq t 24 k (some a)
theorem Tr.setq_eq {α : Type} : @Tr.setq α = @Tr.set α := by
  funext t k a
  exact Tr.setFq_eq t 24 k (some a)

noncomputable def setDstq (fr : Fr) (d : Option Nat) (v : V) : Option Fr :=
  Option.rec (motive := fun _ => Option Fr) (some fr) (fun d => Fr.rec (motive := fun _ => Option Fr) (fun t sz ds => Bool.rec none (some ⟨t.setq d v, sz, ds⟩) (Nat.blt d sz)) fr) d
theorem setDstq_eq : setDstq = setDst := by
  funext fr d v
  cases d with
  | none => rfl
  | some d =>
    obtain ⟨t, sz, ds⟩ := fr
    show (Bool.rec none (some ⟨t.setq d v, sz, ds⟩) (Nat.blt d sz) : Option Fr) = _
    rw [Tr.setq_eq]
    simp only [setDst]
    cases Nat.blt d sz <;> rfl

noncomputable def opndq (t : Tr V) (x : Operand) : Option V :=
  Operand.rec (motive := fun _ => Tr V → Option V) (tmp := fun k t => t.getq k) (const := fun v _ => ofVal v) (global := fun _ _ => none) (func := fun f _ => some (.func (.fn (.func f)) [] [])) x t
theorem opndq_eq : opndq = opnd := by
  funext t x
  cases x with
  | tmp k => show t.getq k = t.get k; rw [Tr.getq_eq]
  | _ => rfl
noncomputable def v1q (t : Tr V) (x : Operand) (f : V → OpR) : OpR := Option.rec (motive := fun _ => OpR) (.bad 150) f (opndq t x)
theorem v1q_eq : v1q = v1 := by
  funext t x f
  simp only [v1q, v1, opndq_eq]
  cases opnd t x <;> rfl
noncomputable def v2q (t : Tr V) (x y : Operand) (f : V → V → OpR) : OpR := Option.rec (motive := fun _ => OpR) (.bad 151) (fun v => Option.rec (motive := fun _ => OpR) (.bad 151) (f v) (opndq t y)) (opndq t x)
theorem v2q_eq : v2q = v2 := by
  funext t x y f
  simp only [v2q, v2, opndq_eq]
  cases opnd t x <;> cases opnd t y <;> rfl
def qPick (st : St) (a b c : Option V) : OpR := match a, b, c with | some x, some y, some z => doPick st x y z | _, _, _ => .bad 152
def qBuild (C : Ctx) (st : St) (ty : TypeId) (l : Option (List (Nat × V))) : OpR := match l with | some l => doBuild C st ty l | none => .bad 153
def qBuildSlice (C : Ctx) (st : St) (ty : TypeId) (len : Nat) (l : Option (List (Nat × V))) : OpR := match l with | some l => doBuildSlice C st ty len l | none => .bad 154
def qMakeFunc (st : St) (f : Fn) (a b : Option (List V)) : OpR := match a, b with | some a, some b => doMakeFunc st f a b | _, _ => .bad 155
def qSlice (C : Ctx) (st : St) (ty : TypeId) (v : Option V) (a b c : Option (Option V)) : OpR := match v, a, b, c with | some v, some a, some b, some c => doSlice C st ty v a b c | _, _, _, _ => .bad 156
def qMakeMap (st : St) (a : Option (Option V)) : OpR := match a with | some a => doMakeMap st a | none => .bad 157
noncomputable def opq (o : Op) : Ctx → Tr V → St → OpR := Op.rec (motive := fun _ => Ctx → Tr V → St → OpR)
  (move := fun x C t st => v1q t x fun v => .val v st)
  (assign := fun x C t st => v1q t x fun v => .val v st)
  (pick := fun c a b C t st => qPick st (opndq t c) (opndq t a) (opndq t b))
  (alloc := fun ty C t st => doAlloc C st ty)
  (box := fun _e x C t st => v1q t x fun v => doBox st v)
  (build := fun ty parts C t st => qBuild C st ty (opndP t parts.toList))
  (buildSlice := fun ty len parts C t st => qBuildSlice C st ty len (opndP t parts.toList))
  (insert := fun ty m k x C t st => v2q t m k fun v u => v1q t x fun y => doMapUpdate C st ty v u y)
  (load := fun ty a C t st => v1q t a fun v => doLoad C st ty v)
  (store := fun ty a x C t st => v2q t a x fun v u => doStore C st ty v u)
  (ready := fun _ _ _ _ => .bad 158)
  (waits := fun _ _ _ _ => .bad 158)
  (nilCheck := fun x C t st => v1q t x fun v => doNilCheck st v)
  (binOp := fun op ty x y _z C t st => v2q t x y fun v u => doBin C st op ty x y v u)
  (unOp := fun op _y x C t st => v1q t x fun v => doUn st op v)
  (convert := fun src dst x C t st => v1q t x fun v => doConvert C st src dst v)
  (sliceToArrayPointer := fun _ _ _ _ _ => .bad 158)
  (makeInterface := fun ty x C t st => v1q t x fun v => doMakeInterface C st ty v)
  (makeFunc := fun f first caps C t st => qMakeFunc st f (opndL t first.toList) (opndL t caps.toList))
  (makeMap := fun _y r C t st => qMakeMap st (opndO t r))
  (makeChan := fun _ _ _ _ _ => .bad 158)
  (makeSlice := fun ty l c C t st => v2q t l c fun v u => doMakeSlice C st ty v u)
  (slice := fun ty x lo hi mx C t st => qSlice C st ty (opndq t x) (opndO t lo) (opndO t hi) (opndO t mx))
  (fieldAddr := fun s x f C t st => v1q t x fun v => doFieldAddr C st s v f)
  (field := fun s x f C t st => v1q t x fun v => doField C st s v f)
  (indexAddr := fun ty x ix C t st => v2q t x ix fun v u => doIndexAddr C st ty v u)
  (index := fun ty x ix C t st => v2q t x ix fun v u => doIndex C st ty v u)
  (lookup := fun ty x k ok C t st => v2q t x k fun v u => doLookup C st ty v u ok)
  (mapUpdate := fun ty m k x C t st => v2q t m k fun v u => v1q t x fun y => doMapUpdate C st ty v u y)
  (mapEntry := fun _ _ _ _ _ _ => .bad 158)
  (entryStore := fun _ _ _ _ _ _ _ => .bad 158)
  (range := fun ty x C t st => v1q t x fun v => doRange C st ty v)
  (next := fun it isString C t st => v1q t it fun v => doNext st v isString)
  (entry := fun it C t st => v1q t it fun v => doEntry st v)
  (typeAssert := fun x _y asserted ok C t st => v1q t x fun v => doTypeAssert C st v asserted ok)
  (extract := fun x k C t st => v1q t x fun v => doExtract st v k)
  (call := fun c C t st => doCall C st t c)
  (go := fun _ _ _ _ => .bad 158)
  (defer := fun c C t st => doDefer t c)
  (panic := fun x C t st => v1q t x fun v => doPanic v)
  (send := fun _ _ _ _ _ => .bad 158)
  (recv := fun _ _ _ _ _ _ => .bad 158)
  (select := fun _ _ _ _ _ => .bad 158) o
noncomputable def evOpq (C : Ctx) (t : Tr V) (st : St) (o : Oper) : OpR := opq o.op C t st
theorem evOpq_eq : evOpq = evOp := by
  funext C t st o
  obtain ⟨d, op, ty, p, a, g⟩ := o
  cases op <;> simp only [evOpq, evOp, opq, v1q_eq, v2q_eq, opndq_eq] <;> first | rfl | (simp only [qPick, qSlice, qMakeFunc, qBuild, qBuildSlice, qMakeMap]; rfl) | (simp only [qPick, qSlice, qMakeFunc, qBuild, qBuildSlice, qMakeMap])

def callPlainq : Callee → Bool
  | .builtin .len | .builtin .cap | .builtin .min | .builtin .max => true
  | _ => false
noncomputable def plainq (o : Op) : Bool := Op.rec (motive := fun _ => Bool)
  (move := fun _ => true)
  (assign := fun _ => false)
  (pick := fun _ _ _ => true)
  (alloc := fun _ => false)
  (box := fun _ _ => false)
  (build := fun _ _ => true)
  (buildSlice := fun _ _ _ => false)
  (insert := fun _ _ _ _ => false)
  (load := fun _ _ => true)
  (store := fun _ _ _ => false)
  (ready := fun _ => false)
  (waits := fun _ => false)
  (nilCheck := fun _ => true)
  (binOp := fun _ _ _ _ _ => true)
  (unOp := fun _ _ _ => true)
  (convert := fun _ _ _ => true)
  (sliceToArrayPointer := fun _ _ => false)
  (makeInterface := fun _ _ => true)
  (makeFunc := fun _ _ _ => true)
  (makeMap := fun _ _ => false)
  (makeChan := fun _ _ => false)
  (makeSlice := fun _ _ _ => false)
  (slice := fun _ _ _ _ _ => true)
  (fieldAddr := fun _ _ _ => true)
  (field := fun _ _ _ => true)
  (indexAddr := fun _ _ _ => true)
  (index := fun _ _ _ => true)
  (lookup := fun _ _ _ _ => true)
  (mapUpdate := fun _ _ _ _ => false)
  (mapEntry := fun _ _ _ => false)
  (entryStore := fun _ _ _ _ => false)
  (range := fun _ _ => false)
  (next := fun _ _ => false)
  (entry := fun _ => true)
  (typeAssert := fun _ _ _ _ => true)
  (extract := fun _ _ => true)
  (call := fun c => callPlainq c.callee)
  (go := fun _ => false)
  (defer := fun _ => false)
  (panic := fun _ => false)
  (send := fun _ _ => false)
  (recv := fun _ _ _ => false)
  (select := fun _ _ => false) o
theorem plainq_eq (o : Oper) : plainq o.op = plainKind o := by
  obtain ⟨d, op, ty, p, a, g⟩ := o
  cases op <;> rfl

def qWanted1 (fc : Facts) (want : Bool) : Option V → Wanted
  | some v => wantedT fc want v
  | none => .bad
noncomputable def qWanted2 (st : St) (t : Tr V) (want : Bool) : Option Nat → Wanted
  | some d => qWanted1 st.fc want (t.getq d)
  | none => .no
noncomputable def qWanted3 (st : St) (t : Tr V) (want : Bool) : Option Oper → Wanted
  | some oj => qWanted2 st t want oj.dst
  | none => .no
noncomputable def wantedq (st : St) (t : Tr V) (all : Array Oper) (o : Oper) : Wanted :=
  match o.guard with
  | none => .yes
  | some (j, want) => qWanted3 st t want all[j]?
theorem wantedq_eq : wantedq = wanted := by
  funext st t all o
  obtain ⟨d, op, ty, p, a, g⟩ := o
  cases g with
  | none => rfl
  | some p =>
    obtain ⟨j, want⟩ := p
    simp only [wantedq, wanted]
    cases all[j]? with
    | none => rfl
    | some oj =>
      simp only [qWanted3]
      cases oj.dst with
      | none => rfl
      | some d => simp only [qWanted2, Tr.getq_eq]; cases t.get d <;> rfl
end Go.Sx
