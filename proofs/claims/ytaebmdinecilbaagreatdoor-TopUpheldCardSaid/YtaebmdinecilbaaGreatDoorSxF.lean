/- A part of a symbolic evaluator over the model and of the proof that it is right: 'SxF'. It holds for every program; no condition. -/
import Derived.Test.YtaebmdinecilbaaGreatDoorSxE
import Derived.Laws.Sem
namespace Go.Sx

/-! ## Constants -/
def ofValF : Nat → Value → Option V
  | 0, _ => none
  | f + 1, v =>
    match v with
    | .bool b => some (.bool (.lit (b2i b)))
    | .int k z => some (.int k (.lit z))
    | .string ⟨⟨l⟩⟩ => some (.str l)
    | .pointer none => some .nilPtr
    | .slice none 0 0 => some .nilSlice
    | .map none => some .nilMap
    | .nilFunc => some .nilFunc
    | .nilIface => some .nilIface
    | .agg ⟨l⟩ => (goL f l).map V.agg
    | .tuple ⟨l⟩ => (goL f l).map V.tuple
    | .iface t v => (ofValF f v).map (V.iface t)
    | _ => none
where
  goL (f : Nat) : List Value → Option (List V)
    | [] => some []
    | v :: l => match ofValF f v with
      | some x => match goL f l with
        | some r => some (x :: r)
        | none => none
      | none => none

theorem b2i_ne (b : Bool) : (b2i b != 0) = b := by cases b <;> rfl

theorem ofValF_sound : ∀ (f : Nat) (v : Value) (x : V), ofValF f v = some x → (∀ ρ, x.den ρ = v) ∧ (∀ n, x.wf n)
  | 0, _, _, h => by simp [ofValF] at h
  | f + 1, v, x, h => by
    have ih := ofValF_sound f
    have hl : ∀ (l : List Value) (r : List V), ofValF.goL f l = some r → (∀ ρ, V.denL ρ r = l) ∧ (∀ n, V.wfL n r) := by
      intro l
      induction l with
      | nil => intro r h; simp [ofValF.goL] at h; subst h; exact ⟨fun _ => rfl, fun _ => trivial⟩
      | cons v l il =>
        intro r h
        simp only [ofValF.goL] at h
        split at h
        · rename_i y hy
          split at h
          · rename_i s hs
            simp at h; subst h
            obtain ⟨h1, h2⟩ := ih v y hy
            obtain ⟨h3, h4⟩ := il s hs
            exact ⟨fun ρ => by simp [V.denL, h1 ρ, h3 ρ], fun n => ⟨h2 n, h4 n⟩⟩
          · simp at h
        · simp at h
    unfold ofValF at h
    split at h
    · simp at h; subst h; exact ⟨fun ρ => by simp [V.den, b2i_ne], fun _ => trivial⟩
    · simp at h; subst h; exact ⟨fun ρ => by simp [V.den], fun _ => trivial⟩
    · simp at h; subst h; exact ⟨fun ρ => by simp [V.den], fun _ => trivial⟩
    · simp at h; subst h; exact ⟨fun ρ => rfl, fun _ => trivial⟩
    · simp at h; subst h; exact ⟨fun ρ => rfl, fun _ => trivial⟩
    · simp at h; subst h; exact ⟨fun ρ => rfl, fun _ => trivial⟩
    · simp at h; subst h; exact ⟨fun ρ => rfl, fun _ => trivial⟩
    · simp at h; subst h; exact ⟨fun ρ => rfl, fun _ => trivial⟩
    · rename_i l
      simp only [Option.map_eq_some_iff] at h
      obtain ⟨r, hr, rfl⟩ := h
      obtain ⟨h1, h2⟩ := hl l r hr
      exact ⟨fun ρ => by simp [V.den, h1 ρ], fun n => h2 n⟩
    · rename_i l
      simp only [Option.map_eq_some_iff] at h
      obtain ⟨r, hr, rfl⟩ := h
      obtain ⟨h1, h2⟩ := hl l r hr
      exact ⟨fun ρ => by simp [V.den, h1 ρ], fun n => h2 n⟩
    · rename_i t v
      simp only [Option.map_eq_some_iff] at h
      obtain ⟨r, hr, rfl⟩ := h
      obtain ⟨h1, h2⟩ := ih v r hr
      exact ⟨fun ρ => by simp [V.den, h1 ρ], fun n => h2 n⟩
    · simp at h
def ofVal (v : Value) : Option V := ofValF 8 v
theorem ofVal_den {v : Value} {x : V} (h : ofVal v = some x) (ρ : Env) : x.den ρ = v := (ofValF_sound 8 v x h).1 ρ
theorem ofVal_wf {v : Value} {x : V} (h : ofVal v = some x) (n : Nat) : x.wf n := (ofValF_sound 8 v x h).2 n

/-! ## Types -/
def aggD : TypeDesc → Bool
  | .struct _ | .array _ _ => true
  | _ => false

structure FI where
  ty : Nat
  off : Nat
  size : Nat
  agg : Bool
  blank : Bool

structure TyI where
  und : TypeDesc
  size : Nat
  agg : Bool
  bytes : Nat
  zero : Option V
  flds : List FI
  el : Option FI
  len : Nat
  free : Bool
  meth : List (String × Option Nat)

/-- methods that take the value as it is -/
def isPtrD : TypeDesc → Bool
  | .pointer _ => true
  | _ => false
def mkMeth (ptr : Bool) (m : Method) : String × Option Nat :=
  (m.name, match m.path.toList, m.func with
    | [], some (g, pr) => bif (bif ptr then pr else !pr) then some g else none
    | _, _ => none)
def mkMeths (ptr : Bool) : List Method → List (String × Option Nat)
  | [] => []
  | m :: l => mkMeth ptr m :: mkMeths ptr l
def findMeth (name : String) : List (String × Option Nat) → Option Nat
  | [] => none
  | (n, g) :: l => bif n == name then g else findMeth name l
theorem findMeth_spec {ptr : Bool} {name : String} {g : Nat} : ∀ {l : List Method}, findMeth name (mkMeths ptr l) = some g →
    ∃ m, l.find? (fun m => m.name == name) = some m ∧ m.path.toList = [] ∧ ∃ pr, m.func = some (g, pr) ∧ (if ptr = true then pr else !pr) = true
  | [], h => by simp [mkMeths, findMeth] at h
  | m :: l, h => by
    simp only [mkMeths, mkMeth, findMeth] at h
    cases hn : (m.name == name)
    · simp only [hn, cond_false] at h
      obtain ⟨m', h1, h2⟩ := findMeth_spec h
      exact ⟨m', by simp [hn, h1], h2⟩
    · simp only [hn, cond_true] at h
      split at h
      · rename_i g' pr hp hf
        cases hb : (bif ptr then pr else !pr)
        · simp [hb] at h
        · simp only [hb, cond_true, Option.some.injEq] at h
          subst h
          refine ⟨m, by simp [hn], hp, pr, hf, ?_⟩
          cases ptr <;> simpa using hb
      · simp at h

def mkFI (P : Program) (ty off : Nat) (blank : Bool) : Option FI :=
  match P.info? ty, P.underlying ty with
  | some i, some d => some { ty := ty, off := off, size := i.size, agg := aggD d, blank := blank }
  | _, _ => none
def mkFIs (P : Program) : List Field → Option (List FI)
  | [] => some []
  | f :: l => match mkFI P f.type f.offset (f.name == "_"), mkFIs P l with
    | some x, some r => some (x :: r)
    | _, _ => none
def fldsOf (P : Program) : TypeDesc → Option (List FI)
  | .struct ⟨fs⟩ => mkFIs P fs
  | _ => some []
def mkTy (P : Program) (t : Nat) : Option TyI :=
  match P.info? t, P.underlying t with
  | some i, some d => match fldsOf P d with
    | none => none
    | some fl => some {
      und := d, size := i.size, agg := aggD d, bytes := i.bytes, zero := i.zero.bind ofVal
      flds := fl
      el := match d with | .array _ e => mkFI P e 0 false | .slice e => mkFI P e 0 false | _ => none
      len := match d with | .array n _ => n | _ => 0
      free := !(P.eqGuardType P.depth t) && !(P.stoodInHeld t)
      meth := mkMeths (isPtrD d) i.methods.toList }
  | _, _ => none

/-- what is looked at of a function -/
structure FnI where
  code : Code
  ntmps : Nat
  results : List ResultVar
  plans : Tr (List PA)
def mkFn (P : Program) (f : Nat) : Option FnI :=
  match P.funcs[f]? with
  | some fn => match fn.body with
    | some c => bif fn.name == "runtime.NumGoroutine" then none else some { code := c, ntmps := fn.ntmps, results := fn.results.toList, plans := .e }
    | none => none
  | none => none
/-- what is known of a function's calls: at a state and arguments, what it hands back and the state behind it -/
abbrev Summ := St → List V → Option (V × St)
structure Ctx where
  ty : Tr TyI
  fn : Tr FnI
  sm : Tr Summ

def trOf {α : Type} (f : Nat → Option α) : Nat → Tr α
  | 0 => .e
  | n + 1 => match f n with
    | some a => (trOf f n).set n a
    | none => trOf f n
theorem trOf_get {α : Type} {f : Nat → Option α} : ∀ {n k : Nat} {a : α}, (trOf f n).get k = some a → f k = some a
  | 0, k, a, h => by simp [trOf, Tr.get] at h
  | n + 1, k, a, h => by
    unfold trOf at h
    split at h
    · rename_i b hb
      rcases Tr.get_set h with ⟨rfl, rfl⟩ | ⟨_, h⟩
      · exact hb
      · exact trOf_get h
    · exact trOf_get h

theorem mkFI_spec {P : Program} {ty off : Nat} {b : Bool} {x : FI} (h : mkFI P ty off b = some x) :
    x.ty = ty ∧ x.off = off ∧ x.blank = b ∧ ∃ i d, P.info? ty = some i ∧ P.underlying ty = some d ∧ i.size = x.size ∧ aggD d = x.agg := by
  unfold mkFI at h
  split at h
  · rename_i i d hi hd
    simp at h; subst h
    exact ⟨rfl, rfl, rfl, i, d, hi, hd, rfl, rfl⟩
  · simp at h
theorem mkFIs_get {P : Program} : ∀ {l : List Field} {r : List FI} {k : Nat} {x : FI}, mkFIs P l = some r → r[k]? = some x →
    ∃ f, l[k]? = some f ∧ mkFI P f.type f.offset (f.name == "_") = some x
  | [], r, k, x, h, hk => by simp [mkFIs] at h; subst h; simp at hk
  | f :: l, r, k, x, h, hk => by
    simp only [mkFIs] at h
    split at h
    · rename_i y s hy hs
      simp at h; subst h
      cases k with
      | zero => simp at hk; subst hk; exact ⟨f, by simp, hy⟩
      | succ k => simp at hk; simpa using mkFIs_get hs hk
    · simp at h
theorem mkFIs_len {P : Program} : ∀ {l : List Field} {r : List FI}, mkFIs P l = some r → r.length = l.length
  | [], r, h => by simp [mkFIs] at h; subst h; rfl
  | f :: l, r, h => by
    simp only [mkFIs] at h
    split at h
    · rename_i y s hy hs
      simp at h; subst h; simp [mkFIs_len hs]
    · simp at h

structure TyOk (P : Program) (t : Nat) (i : TyI) : Prop where
  und : P.underlying t = some i.und
  info : ∃ x, P.info? t = some x ∧ x.size = i.size ∧ x.bytes = i.bytes ∧ x.zero.bind ofVal = i.zero
  meth : ∃ x, P.info? t = some x ∧ i.meth = mkMeths (isPtrD i.und) x.methods.toList
  agg : i.agg = aggD i.und
  flds : fldsOf P i.und = some i.flds
  fld : ∀ (k : Nat) (x : FI), i.flds[k]? = some x → ∃ (fs : List Field) (f : Field), i.und = .struct ⟨fs⟩ ∧ fs[k]? = some f ∧ mkFI P f.type f.offset (f.name == "_") = some x
  el : ∀ x, i.el = some x → ∃ e, (i.und = .slice e ∨ i.und = .array i.len e) ∧ mkFI P e 0 false = some x
  free : i.free = true → P.eqGuardType P.depth t = false ∧ P.stoodInHeld t = false
theorem mkTy_ok {P : Program} {t : Nat} {i : TyI} (h : mkTy P t = some i) : TyOk P t i := by
  unfold mkTy at h
  split at h
  · rename_i x d hx hd
    split at h
    · simp at h
    rename_i fl hfl
    simp at h; subst h
    refine ⟨hd, ⟨x, hx, rfl, rfl, rfl⟩, ⟨x, hx, rfl⟩, rfl, hfl, ?_, ?_, ?_⟩
    · intro k y hy
      dsimp only at hy ⊢
      unfold fldsOf at hfl
      split at hfl
      · rename_i fs
        obtain ⟨f, h1, h2⟩ := mkFIs_get hfl hy
        exact ⟨fs, f, rfl, h1, h2⟩
      · simp at hfl; subst hfl; simp at hy
    · intro y hy
      dsimp only at hy ⊢
      split at hy
      · exact ⟨_, .inr rfl, hy⟩
      · exact ⟨_, .inl rfl, hy⟩
      · simp at hy
    · intro h
      simpa using h
  · simp at h

structure FnOk (P : Program) (f : Nat) (x : FnI) : Prop where
  fn : ∃ fn, P.funcs[f]? = some fn ∧ fn.body = some x.code ∧ (fn.name == "runtime.NumGoroutine") = false ∧ fn.ntmps = x.ntmps ∧ fn.results.toList = x.results

structure Ctx.Ok (P : Program) (C : Ctx) : Prop where
  ty : ∀ t i, C.ty.get t = some i → TyOk P t i
  fn : ∀ f x, C.fn.get f = some x → FnOk P f x
theorem Ctx.Ok.get {P : Program} {C : Ctx} (hC : C.Ok P) {t : Nat} {i : TyI} (h : C.ty.get t = some i) : TyOk P t i := hC.ty t i h
theorem Ctx.Ok.fnOf {P : Program} {C : Ctx} (hC : C.Ok P) {f : Nat} {x : FnI} (h : C.fn.get f = some x) :
    ∃ fn, P.funcs[f]? = some fn ∧ fn.body = some x.code ∧ (fn.name == "runtime.NumGoroutine") = false ∧ fn.ntmps = x.ntmps ∧ fn.results.toList = x.results := (hC.fn f x h).fn

theorem mkFn_ok {P : Program} {f : Nat} {x : FnI} (h : mkFn P f = some x) : FnOk P f x := by
  unfold mkFn at h
  split at h
  · rename_i fn hf
    split at h
    · rename_i c hc
      cases hn : (fn.name == "runtime.NumGoroutine") <;> simp [hn] at h
      subst h
      exact ⟨fn, hf, hc, hn, rfl, rfl⟩
    · simp at h
  · simp at h
def mkCtx (P : Program) : Ctx := { ty := trOf (mkTy P) P.types.size, fn := trOf (mkFn P) P.funcs.size, sm := .e }
theorem mkCtx_ok (P : Program) : (mkCtx P).Ok P := ⟨fun _ _ h => mkTy_ok (trOf_get h), fun _ _ h => mkFn_ok (trOf_get h)⟩

section
variable {P : Program} {t : Nat} {i : TyI} (h : TyOk P t i) (w : World)
include h
theorem TyOk.run_und : (underlying t).run P w = .ok i.und w := by simp [underlying, h.und]
theorem TyOk.run_size : (sizeOf t).run P w = .ok i.size w := by
  obtain ⟨x, h1, h2, _⟩ := h.info
  simp [sizeOf, typeInfo, h1, h2]
theorem TyOk.run_agg : (isAgg t).run P w = .ok i.agg w := by
  rw [isAgg, Sem.run_bind, h.run_und, Result.andThen_ok, h.agg]
  cases i.und <;> rfl
theorem TyOk.run_zero {v : V} (hz : i.zero = some v) : (zeroValue t).run P w = .ok (v.den ⟨fun _ => 0, fun _ => 0, fun _ => 0, fun _ => .nilIface⟩) w ∧ (∀ ρ n, v.wf n ∧ (zeroValue t).run P w = .ok (v.den ρ) w) := by
  obtain ⟨x, h1, h2, h3, h4⟩ := h.info
  rw [hz] at h4
  cases hx : x.zero with
  | none => simp [hx] at h4
  | some u =>
    simp only [hx, Option.bind_some] at h4
    have key : ∀ ρ, (zeroValue t).run P w = .ok (v.den ρ) w := fun ρ => by
      rw [ofVal_den h4]; simp [zeroValue, typeInfo, h1, hx]
    exact ⟨key _, fun ρ n => ⟨ofVal_wf h4 n, key ρ⟩⟩
end
theorem run_size_fi {P : Program} {ty off : Nat} {b : Bool} {x : FI} (h : mkFI P ty off b = some x) (w : World) : (sizeOf ty).run P w = .ok x.size w := by
  obtain ⟨_, _, _, i, d, h1, h2, h3, h4⟩ := mkFI_spec h
  simp [sizeOf, typeInfo, h1, h3]
theorem run_agg_fi {P : Program} {ty off : Nat} {b : Bool} {x : FI} (h : mkFI P ty off b = some x) (w : World) : (isAgg ty).run P w = .ok x.agg w := by
  obtain ⟨_, _, _, i, d, h1, h2, h3, h4⟩ := mkFI_spec h
  rw [isAgg, Sem.run_bind, underlying]
  simp [h2]
  rw [← h4]
  cases d <;> rfl
end Go.Sx
