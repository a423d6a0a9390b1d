/- A part of a symbolic evaluator over the model and of the proof that it is right: 'SxZ'. It holds for every program; no condition. -/
import Derived.Test.YtaebmdinecilbaaGreatDoorSxV
namespace Go.Sx

def learnSt (st : St) (c : Tm) (b : Bool) : St := { st with fc := learn st.fc c b }
/-- kinds that make nothing and write nothing -/
def plainKind (o : Oper) : Bool :=
  match o.op with
  | .move _ | .pick .. | .load .. | .nilCheck _ | .binOp .. | .unOp .. | .convert .. | .makeInterface .. | .makeFunc .. | .slice .. | .fieldAddr .. | .field .. | .indexAddr .. | .index .. | .lookup .. | .entry _ | .extract .. | .build .. | .typeAssert .. => true
  | .call c => match c.callee with
    | .builtin .len | .builtin .cap | .builtin .min | .builtin .max => true
    | _ => false
  | _ => false
def dropDst (ops : Array Oper) : List PA → Tr V → Tr V
  | [], t => t
  | .n i :: l, t => dropDst ops l (match dstAt ops i with | some d => t.del d | none => t)
  | .b i :: l, t => dropDst ops l (match dstAt ops i with | some d => t.del d | none => t)
  | _ :: l, t => dropDst ops l t
def sameDst (fr : Fr) (d : Option Nat) (v : V) : Bool :=
  match d with
  | none => true
  | some d => match fr.t.get d with
    | some u => V.beq u v
    | none => false
/-- what an operation makes in an empty memory, put into the memory -/
def bindNew (st st' : St) : St := { h := (match st'.h.get st.nx with | some ob => st.h.set st.nx ob | none => st.h), nx := st'.nx, fc := st.fc }
def iso (st : St) : St := { h := .e, nx := st.nx, fc := st.fc }
def bare (st : St) : St := { st with fc := [] }

/-- two states of a frame, alike but for stale temporaries -/
structure Agree (S : Nat → Prop) (a a' : Act) : Prop where
  ds : a.defers = a'.defers
  sz : a.tmps.size = a'.tmps.size
  at_ : ∀ k, ¬ S k → a.tmps[k]? = a'.tmps[k]?
def noS : Nat → Prop := fun _ => False
theorem Agree.refl (S : Nat → Prop) (a : Act) : Agree S a a := ⟨rfl, rfl, fun _ _ => rfl⟩
theorem Agree.eq {a a' : Act} (h : Agree noS a a') : a = a' := by
  obtain ⟨t, d⟩ := a
  obtain ⟨t', d'⟩ := a'
  obtain ⟨h1, h2, h3⟩ := h
  simp only at h1 h2 h3
  subst h1
  congr 1
  exact Array.ext_getElem? fun k => h3 k id
theorem put_get_ne {a : Act} {d : Option Nat} {v : Value} {k : Nat} (h : d ≠ some k) : (a.put d v).tmps[k]? = a.tmps[k]? := by
  cases d with
  | none => rfl
  | some d => exact Array.getElem?_setIfInBounds_ne (fun e => h (by rw [e]))
theorem put_get {a : Act} {d : Nat} {v : Value} (h : d < a.tmps.size) : (a.put (some d) v).tmps[d]? = some v := by
  simp [Act.put, h]
theorem put_size (a : Act) (d : Option Nat) (v : Value) : (a.put d v).tmps.size = a.tmps.size := by cases d <;> simp [Act.put]
theorem put_ds (a : Act) (d : Option Nat) (v : Value) : (a.put d v).defers = a.defers := by cases d <;> rfl
theorem Agree.put {S : Nat → Prop} {a a' : Act} (h : Agree S a a') (d : Option Nat) (v : Value) : Agree S (a.put d v) (a'.put d v) := by
  refine ⟨by rw [put_ds, put_ds, h.ds], by rw [put_size, put_size, h.sz], fun k hk => ?_⟩
  cases d with
  | none => exact h.at_ k hk
  | some d =>
    by_cases e : d = k
    · subst e
      simp only [Act.put, Array.getElem?_setIfInBounds, if_true, h.sz]
    · rw [put_get_ne (by simpa using e), put_get_ne (by simpa using e)]; exact h.at_ k hk
/-- an operation that does not see what is stale -/
def Blind (S : Nat → Prop) (all : Array Oper) (o : Oper) : Prop :=
  ∀ a a', Agree S a a' → execOp a.eval o = execOp a'.eval o ∧ Region.wanted o (yielded all a.tmps) = Region.wanted o (yielded all a'.tmps)
theorem blind_noS (all : Array Oper) (o : Oper) : Blind noS all o := fun a a' h => by rw [h.eq]; exact ⟨rfl, rfl⟩

def noSel (o : Oper) : Prop := ∀ cs b, o.op ≠ .select cs b
def noDef (o : Oper) : Prop := ∀ c, o.op ≠ .defer c
theorem noDef_of {o : Oper} (h : kindOk o = true) : noDef o := by
  intro c e
  unfold kindOk at h
  rw [e] at h
  simp at h
theorem noSel_of {o : Oper} (h : kindOk o = true) : noSel o := by
  intro cs b e
  unfold kindOk at h
  rw [e] at h
  simp at h

/-- what an operation looks at is all that counts -/
theorem same_exec {all : Array Oper} {o : Oper} (hs : noSel o) {a a' : Act} (h : ∀ d ∈ o.looksAt all, a.tmps[d]? = a'.tmps[d]?) :
    execOp a.eval o = execOp a'.eval o ∧ Region.wanted o (yielded all a.tmps) = Region.wanted o (yielded all a'.tmps) := by
  constructor
  · refine execOp_congr o hs fun x hx => ?_
    cases x with
    | tmp t =>
      have := h t (List.mem_append_left _ (List.mem_filterMap.2 ⟨.tmp t, by simpa using hx, rfl⟩))
      simp only [Act.eval, Array.getD_eq_getD_getElem?, this]
    | _ => rfl
  · unfold Region.wanted
    cases hg : o.guard with
    | none => rfl
    | some gw =>
      obtain ⟨g, want⟩ := gw
      have hy : yielded all a.tmps g = yielded all a'.tmps g := by
        unfold yielded
        cases ht : (all[g]?).bind (·.dst) with
        | none => rfl
        | some t =>
          have := h t (by
            unfold Oper.looksAt
            rw [hg]
            exact List.mem_append_right _ (by simp [ht]))
          simp [this]
      simp only [hy]

theorem blind_of {S : Nat → Prop} {all : Array Oper} {o : Oper} (hs : noSel o) (h : ∀ d ∈ o.looksAt all, ¬ S d) : Blind S all o :=
  fun _ _ hA => same_exec hs fun d hd => hA.at_ d (h d hd)

/-! ## Kinds that leave the state -/
def Stays (st : St) (r : OpR) : Prop := ∀ v st', r = .val v st' → st' = st
section
variable {C : Ctx} {st : St}
theorem stays_load (ty : Nat) (v : V) : Stays st (doLoad C st ty v) := by
  intro u s e; unfold doLoad at e; (try simp only [Bool.cond_eq_ite] at e); repeat' split at e
  all_goals simp_all

theorem stays_fieldAddr (s : Nat) (v : V) (f : Nat) : Stays st (doFieldAddr C st s v f) := by
  intro u s e; unfold doFieldAddr at e; (try simp only [Bool.cond_eq_ite] at e); repeat' split at e
  all_goals simp_all

theorem stays_field (s : Nat) (v : V) (f : Nat) : Stays st (doField C st s v f) := by
  intro u s e; unfold doField at e; (try simp only [Bool.cond_eq_ite] at e); repeat' split at e
  all_goals simp_all

theorem stays_askNum (t : Tm) (n : Nat) : Stays st (askNum st.fc t n) := by
  intro u s e; unfold askNum at e; (try simp only [Bool.cond_eq_ite] at e); repeat' split at e
  all_goals simp_all

theorem stays_int (op : BinOp) (k : IntKind) (a b : Tm) : Stays st (doInt st op k a b) := by
  intro u s e; unfold doInt at e; (try simp only [Bool.cond_eq_ite] at e); repeat' split at e
  all_goals first | exact stays_askNum _ _ _ _ e | simp_all

theorem stays_shift (op : BinOp) (k : IntKind) (a b : Tm) : Stays st (doShift st op k a b) := by
  intro u s e; unfold doShift at e; (try simp only [Bool.cond_eq_ite] at e); repeat' split at e
  all_goals first | exact stays_askNum _ _ _ _ e | simp_all

theorem stays_indexAddr (ty : Nat) (x ix : V) : Stays st (doIndexAddr C st ty x ix) := by
  intro u s e; unfold doIndexAddr at e; (try simp only [Bool.cond_eq_ite] at e); repeat' split at e
  all_goals first | exact stays_askNum _ _ _ _ e | exact stays_int _ _ _ _ _ _ e | exact stays_shift _ _ _ _ _ _ e | simp_all

theorem stays_index (ty : Nat) (x ix : V) : Stays st (doIndex C st ty x ix) := by
  intro u s e; unfold doIndex at e; (try simp only [Bool.cond_eq_ite] at e); repeat' split at e
  all_goals first | exact stays_askNum _ _ _ _ e | exact stays_int _ _ _ _ _ _ e | exact stays_shift _ _ _ _ _ _ e | simp_all

theorem stays_build (ty : Nat) (l : List (Nat × V)) : Stays st (doBuild C st ty l) := by
  intro u s e; unfold doBuild at e; (try simp only [Bool.cond_eq_ite] at e); repeat' split at e
  all_goals first | exact stays_askNum _ _ _ _ e | exact stays_int _ _ _ _ _ _ e | exact stays_shift _ _ _ _ _ _ e | simp_all

theorem stays_extract (v : V) (k : Nat) : Stays st (doExtract st v k) := by
  intro u s e; unfold doExtract at e; (try simp only [Bool.cond_eq_ite] at e); repeat' split at e
  all_goals first | exact stays_askNum _ _ _ _ e | exact stays_int _ _ _ _ _ _ e | exact stays_shift _ _ _ _ _ _ e | simp_all

theorem stays_un (op : UnOp) (v : V) : Stays st (doUn st op v) := by
  intro u s e; unfold doUn at e; (try simp only [Bool.cond_eq_ite] at e); repeat' split at e
  all_goals first | exact stays_askNum _ _ _ _ e | exact stays_int _ _ _ _ _ _ e | exact stays_shift _ _ _ _ _ _ e | simp_all

theorem stays_makeInterface (ty : Nat) (v : V) : Stays st (doMakeInterface C st ty v) := by
  intro u s e; unfold doMakeInterface at e; (try simp only [Bool.cond_eq_ite] at e); repeat' split at e
  all_goals first | exact stays_askNum _ _ _ _ e | exact stays_int _ _ _ _ _ _ e | exact stays_shift _ _ _ _ _ _ e | simp_all

theorem stays_makeFunc (f : Fn) (a b : List V) : Stays st (doMakeFunc st f a b) := by
  intro u s e; unfold doMakeFunc at e; (try simp only [Bool.cond_eq_ite] at e); repeat' split at e
  all_goals first | exact stays_askNum _ _ _ _ e | exact stays_int _ _ _ _ _ _ e | exact stays_shift _ _ _ _ _ _ e | simp_all

theorem stays_pick (c a b : V) : Stays st (doPick st c a b) := by
  intro u s e; unfold doPick at e; (try simp only [Bool.cond_eq_ite] at e); repeat' split at e
  all_goals first | exact stays_askNum _ _ _ _ e | exact stays_int _ _ _ _ _ _ e | exact stays_shift _ _ _ _ _ _ e | simp_all

theorem stays_nilCheck (x : V) : Stays st (doNilCheck st x) := by
  intro u s e; unfold doNilCheck at e; (try simp only [Bool.cond_eq_ite] at e); repeat' split at e
  all_goals first | exact stays_askNum _ _ _ _ e | exact stays_int _ _ _ _ _ _ e | exact stays_shift _ _ _ _ _ _ e | simp_all

theorem stays_slice (ty : Nat) (x : V) (a b c : Option V) : Stays st (doSlice C st ty x a b c) := by
  intro u s e; unfold doSlice at e; (try simp only [Bool.cond_eq_ite] at e); repeat' split at e
  all_goals first | exact stays_askNum _ _ _ _ e | exact stays_int _ _ _ _ _ _ e | exact stays_shift _ _ _ _ _ _ e | simp_all

theorem stays_convert (a b : Nat) (x : V) : Stays st (doConvert C st a b x) := by
  intro u s e; unfold doConvert at e; (try simp only [Bool.cond_eq_ite] at e); repeat' split at e
  all_goals first | exact stays_askNum _ _ _ _ e | exact stays_int _ _ _ _ _ _ e | exact stays_shift _ _ _ _ _ _ e | simp_all

theorem stays_bin (op : BinOp) (t : Nat) (xo yo : Operand) (x y : V) : Stays st (doBin C st op t xo yo x y) := by
  intro u s e; unfold doBin at e; (try simp only [Bool.cond_eq_ite] at e); repeat' split at e
  all_goals first | exact stays_askNum _ _ _ _ e | exact stays_int _ _ _ _ _ _ e | exact stays_shift _ _ _ _ _ _ e | simp_all

theorem stays_len (t : Nat) (x : V) : Stays st (doLen C st t x) := by
  intro u s e; unfold doLen at e; (try simp only [Bool.cond_eq_ite] at e); repeat' split at e
  all_goals first | exact stays_askNum _ _ _ _ e | exact stays_int _ _ _ _ _ _ e | exact stays_shift _ _ _ _ _ _ e | simp_all

theorem stays_cap (t : Nat) (x : V) : Stays st (doCap C st t x) := by
  intro u s e; unfold doCap at e; (try simp only [Bool.cond_eq_ite] at e); repeat' split at e
  all_goals first | exact stays_askNum _ _ _ _ e | exact stays_int _ _ _ _ _ _ e | exact stays_shift _ _ _ _ _ _ e | simp_all

theorem stays_min (l : List V) : Stays st (doMin st l) := by
  intro u s e; unfold doMin at e; (try simp only [Bool.cond_eq_ite] at e); repeat' split at e
  all_goals first | exact stays_askNum _ _ _ _ e | exact stays_int _ _ _ _ _ _ e | exact stays_shift _ _ _ _ _ _ e | simp_all

theorem stays_max (l : List V) : Stays st (doMax st l) := by
  intro u s e; unfold doMax at e; (try simp only [Bool.cond_eq_ite] at e); repeat' split at e
  all_goals first | exact stays_askNum _ _ _ _ e | exact stays_int _ _ _ _ _ _ e | exact stays_shift _ _ _ _ _ _ e | simp_all

theorem stays_lookup (ty : Nat) (x k : V) (q : Bool) : Stays st (doLookup C st ty x k q) := by
  intro u s e; unfold doLookup at e; (try simp only [Bool.cond_eq_ite] at e); repeat' split at e
  all_goals first | exact stays_askNum _ _ _ _ e | exact stays_int _ _ _ _ _ _ e | exact stays_shift _ _ _ _ _ _ e | simp_all

theorem stays_entry (x : V) : Stays st (doEntry st x) := by
  intro u s e; unfold doEntry at e; (try simp only [Bool.cond_eq_ite] at e); repeat' split at e
  all_goals first | exact stays_askNum _ _ _ _ e | exact stays_int _ _ _ _ _ _ e | exact stays_shift _ _ _ _ _ _ e | simp_all

theorem stays_typeAssert (x : V) (a : Nat) (q : Bool) : Stays st (doTypeAssert C st x a q) := by
  intro u s e; unfold doTypeAssert at e; (try simp only [Bool.cond_eq_ite] at e); repeat' split at e
  all_goals first | exact stays_askNum _ _ _ _ e | exact stays_int _ _ _ _ _ _ e | exact stays_shift _ _ _ _ _ _ e | simp_all
end
theorem evOp_plain {C : Ctx} {t : Tr V} {st st' : St} {o : Oper} {v : V} (hk : plainKind o = true) (h : evOp C t st o = .val v st') : st' = st := by
  have k1 : ∀ {x : Operand} {f : V → OpR}, (∀ v, Stays st (f v)) → Stays st (v1 t x f) := by
    intro x f h v s e
    unfold v1 at e; split at e
    · exact h _ _ _ e
    · simp at e
  have k2 : ∀ {x y : Operand} {f : V → V → OpR}, (∀ v u, Stays st (f v u)) → Stays st (v2 t x y f) := by
    intro x y f h v s e
    unfold v2 at e; split at e
    · exact h _ _ _ _ e
    · simp at e
  have kv : ∀ x, Stays st (.val x st) := fun x v s e => by simp only [OpR.val.injEq] at e; exact e.2.symm
  suffices hs : Stays st (evOp C t st o) from hs _ _ h
  clear h
  unfold plainKind at hk
  unfold evOp
  split at hk <;> rename_i ho
  all_goals (first | (simp at hk; done) | skip)
  all_goals (rw [ho]; dsimp only)
  case h_1 => exact k1 fun v => kv v
  case h_2 => intro u s e; split at e; · exact stays_pick _ _ _ _ _ e
              · simp at e
  case h_3 => exact k1 fun v => stays_load _ _
  case h_4 => exact k1 fun v => stays_nilCheck _
  case h_5 => exact k2 fun v u => stays_bin _ _ _ _ _ _
  case h_6 => exact k1 fun v => stays_un _ _
  case h_7 => exact k1 fun v => stays_convert _ _ _
  case h_8 => exact k1 fun v => stays_makeInterface _ _
  case h_9 => intro u s e; split at e; · exact stays_makeFunc _ _ _ _ _ e
              · simp at e
  case h_10 => intro u s e; split at e; · exact stays_slice _ _ _ _ _ _ _ e
               · simp at e
  case h_11 => exact k1 fun v => stays_fieldAddr _ _ _
  case h_12 => exact k1 fun v => stays_field _ _ _
  case h_13 => exact k2 fun v u => stays_indexAddr _ _ _
  case h_14 => exact k2 fun v u => stays_index _ _ _
  case h_15 => exact k2 fun v u => stays_lookup _ _ _ _
  case h_16 => exact k1 fun v => stays_entry _
  case h_17 => exact k1 fun v => stays_extract _ _
  case h_18 => intro u s e; split at e; · exact stays_build _ _ _ _ e
               · simp at e
  case h_19 => exact k1 fun v => stays_typeAssert _ _ _
  case h_20 =>
    intro u s e
    unfold doCall at e
    split at e
    · simp at e
    · split at hk
      all_goals first | (simp at hk; done) | skip
      all_goals (rename_i hc; rw [hc] at e; dsimp only [doBuiltin] at e; try split at e)
      all_goals first | exact stays_len _ _ _ _ e | exact stays_cap _ _ _ _ e | exact stays_min _ _ _ e | exact stays_max _ _ _ e | simp_all

/-! ## The memory alone -/
section
variable {P : Program} {ρ ρ1 : Env} {st st1 : St} {w w1 : World}
theorem Real.bare (h : Real ρ st w) : Real ρ (bare st) w := ⟨h.obj, h.inj, fun _ hf => (by simp [Go.Sx.bare] at hf), fun _ hf => (by simp [Go.Sx.bare] at hf)⟩
theorem Real.ofBare (h : Real ρ (Go.Sx.bare st) w1) (h0 : Real ρ st w) : Real ρ st w1 := ⟨h.obj, h.inj, h0.fc, h0.fw⟩
theorem Env.agree.symm {n : Nat} {ρ ρ' : Env} (h : Env.agree n ρ ρ') : Env.agree n ρ' ρ := fun k hk => ⟨(h k hk).1.symm, (h k hk).2.1.symm, (h k hk).2.2.1.symm, (h k hk).2.2.2.symm⟩
/-- a step that leaves the state as it is needs no new names -/
theorem Step.names (h : Step ρ st w ρ1 st w1) : Step ρ st w ρ st w1 where
  agree := .refl _ _
  nx := Nat.le_refl _
  real := by have := h.real.extend h.agree.symm (Nat.le_refl _); exact this
  os := h.os
  tape := h.tape
  output := h.output
  size := h.size
  keep := h.keep
  img := fun _ h => .inl h
  imgA := fun _ h => .inl h
theorem Step.toBare (h : Step ρ st w ρ st w1) : Step ρ (Go.Sx.bare st) w ρ (Go.Sx.bare st) w1 :=
  ⟨.refl _ _, Nat.le_refl _, h.real.bare, h.os, h.tape, h.output, h.size, h.keep, fun _ h => .inl h, fun _ h => .inl h⟩
theorem Step.ofBare (h : Step ρ (Go.Sx.bare st) w ρ (Go.Sx.bare st) w1) (h0 : Real ρ st w) : Step ρ st w ρ st w1 :=
  ⟨.refl _ _, Nat.le_refl _, h.real.ofBare h0, h.os, h.tape, h.output, h.size, h.keep, fun _ h => .inl h, fun _ h => .inl h⟩
theorem Real.iso (h : Real ρ st w) (w1 : World) : Real ρ (Go.Sx.iso st) w1 :=
  ⟨fun _ _ h => by simp [Go.Sx.iso, Tr.get] at h, fun _ _ _ _ h => by simp [Go.Sx.iso, Tr.get] at h, h.fc, h.fw⟩

/-- a world that only grew -/
structure Grow (w w1 : World) : Prop where
  os : w1.os = w.os
  tape : w1.tape = w.tape
  output : w1.output = w.output
  size : w.heap.size ≤ w1.heap.size
  keep : ∀ k, k < w.heap.size → w1.heap[k]? = w.heap[k]?
theorem Grow.of_iso (h : Step ρ (Go.Sx.iso st) w ρ1 st1 w1) : Grow w w1 :=
  ⟨h.os, h.tape, h.output, h.size, fun k hk => h.keep k hk (fun ⟨_, _, h, _⟩ => by simp [Go.Sx.iso, Tr.get] at h)⟩
theorem Grow.step (h : Grow w w1) (hR : Real ρ st w) : Step ρ st w ρ st w1 where
  agree := .refl _ _
  nx := Nat.le_refl _
  real := ⟨fun id o ho => by
      obtain ⟨h1, h2, obj, h3, h4⟩ := hR.obj id o ho
      exact ⟨h1, h2, obj, by rw [h.keep _ (lt_of_some h3)]; exact h3, h4⟩, hR.inj, hR.fc, hR.fw⟩
  os := h.os
  tape := h.tape
  output := h.output
  size := h.size
  keep := fun k hk _ => h.keep k hk
  img := fun _ h => .inl h
  imgA := fun _ h => .inl h
end

/-! ## Schedules -/
inductive Adm (ops : Array Oper) : (Nat → Prop) → List Nat → Prop where
  | nil {D : Nat → Prop} : (∀ i, i < ops.size → D i) → Adm ops D []
  | cons {D : Nat → Prop} {i : Nat} {l : List Nat} : i < ops.size → ¬ D i → (∀ e ∈ edgesAt ops i, D e) → Adm ops (fun j => j = i ∨ D j) l → Adm ops D (i :: l)
theorem Adm.congr {ops : Array Oper} {D D' : Nat → Prop} {l : List Nat} (h : Adm ops D l) (e : ∀ i, D i ↔ D' i) : Adm ops D' l := by
  have : D = D' := funext fun i => propext (e i)
  rw [← this]; exact h

theorem edgesAt_mem {ops : Array Oper} {i : Nat} {o : Oper} (ho : ops[i]? = some o) {e : Nat} : e ∈ edgesAt ops i ↔ ∃ x ∈ o.after, Region.binds .any x = true ∧ x.on = e := by
  unfold edgesAt edgesOf
  rw [ho]
  simp only [List.mem_map, List.mem_filter, Array.mem_toList_iff]
  constructor
  · rintro ⟨x, ⟨h1, h2⟩, h3⟩; exact ⟨x, h1, h2, h3⟩
  · rintro ⟨x, h1, h2, h3⟩; exact ⟨x, ⟨h1, h2⟩, h3⟩

theorem ready_iff {ops : Array Oper} {listed : Array Bool} {i : Nat} (hsz : listed.size = ops.size) :
    i ∈ Region.ready .any ops listed ↔ i < ops.size ∧ listed.getD i false = false ∧ ∀ e ∈ edgesAt ops i, listed.getD e false = true := by
  unfold Region.ready
  simp only [List.mem_filter, List.mem_range, Bool.and_eq_true, Bool.not_eq_true']
  constructor
  · rintro ⟨h1, h2, h3⟩
    have ho : ops[i]? = some ops[i] := Array.getElem?_eq_getElem h1
    refine ⟨h1, ?_, ?_⟩
    · rw [Array.getD_eq_getD_getElem?] at h2 ⊢
      rw [Array.getElem?_eq_getElem (by omega)] at h2 ⊢
      exact h2
    · rw [ho] at h3
      simp only [Option.map_some, Option.getD_some, Array.all_eq_true] at h3
      intro e he
      obtain ⟨x, hx, hb, rfl⟩ := (edgesAt_mem ho).1 he
      obtain ⟨n, hn, rfl⟩ := Array.mem_iff_getElem.1 hx
      have := h3 n hn
      rw [hb] at this
      simpa using this
  · rintro ⟨h1, h2, h3⟩
    have ho : ops[i]? = some ops[i] := Array.getElem?_eq_getElem h1
    refine ⟨h1, ?_, ?_⟩
    · rw [Array.getD_eq_getD_getElem?] at h2 ⊢
      rw [Array.getElem?_eq_getElem (by omega)] at h2 ⊢
      exact h2
    · rw [ho]
      simp only [Option.map_some, Option.getD_some, Array.all_eq_true]
      intro n hn
      cases hb : Region.binds .any ops[i].after[n]
      · rfl
      · simp only [Bool.not_true, Bool.false_or]
        exact h3 _ ((edgesAt_mem ho).2 ⟨_, Array.getElem_mem hn, hb, rfl⟩)

theorem getD_set {a : Array Bool} {i j : Nat} (hi : i < a.size) : (a.setIfInBounds i true).getD j false = true ↔ j = i ∨ a.getD j false = true := by
  rw [Array.getD_eq_getD_getElem?, Array.getD_eq_getD_getElem?, Array.getElem?_setIfInBounds]
  by_cases h : i = j
  · subst h; simp [hi]
  · rw [if_neg h]
    constructor
    · exact .inr
    · rintro (e | h')
      · exact absurd e.symm h
      · exact h'

theorem linearise_adm {ops : Array Oper} (hd : ∀ i, i < ops.size → ∀ e ∈ edgesAt ops i, e < i) : ∀ (fuel t : Nat) (listed : Array Bool) (U : List Nat), listed.size = ops.size → U.length ≤ fuel →
    (∀ i, i < ops.size → listed.getD i false = false → i ∈ U) → Adm ops (fun i => listed.getD i false = true) (Region.linearise.go .any ops fuel t listed [])
  | 0, t, listed, U, hsz, hU, hm => by
    simp only [Region.linearise.go]
    refine .nil fun i hi => ?_
    cases h : listed.getD i false
    · have := hm i hi h
      cases U <;> simp at hU this
    · rfl
  | fuel + 1, t, listed, U, hsz, hU, hm => by
    simp only [Region.linearise.go]
    change Adm ops _ (match (Region.ready .any ops listed)[t % (Region.ready .any ops listed).length]? with
      | some i => Region.linearise.go .any ops fuel (t / (Region.ready .any ops listed).length) (listed.setIfInBounds i true) [i]
      | none => [].reverse)
    cases hi : (Region.ready .any ops listed)[t % (Region.ready .any ops listed).length]? with
    | none =>
      have hnil : Region.ready .any ops listed = [] := by
        cases hr : Region.ready .any ops listed with
        | nil => rfl
        | cons x xs =>
          rw [hr] at hi
          have hlt : t % (x :: xs).length < (x :: xs).length := Nat.mod_lt _ (by simp)
          simp at hi
          simp at hlt
          omega
      refine .nil fun i => ?_
      induction i using Nat.strongRecOn with
      | _ i ih =>
        intro hlt
        cases h : listed.getD i false
        · have : i ∈ Region.ready .any ops listed := (ready_iff hsz).2 ⟨hlt, h, fun e he => ih e (hd i hlt e he) (Nat.lt_trans (hd i hlt e he) hlt)⟩
          rw [hnil] at this
          cases this
        · rfl
    | some i =>
      simp only []
      rw [linearise_go_acc, List.reverse_singleton, List.singleton_append]
      obtain ⟨h1, h2, h3⟩ := (ready_iff hsz).1 (List.mem_of_getElem? hi)
      refine .cons h1 (by simp [h2]) h3 ?_
      have := linearise_adm hd fuel (t / (Region.ready .any ops listed).length) (listed.setIfInBounds i true) (U.erase i) (by simp [hsz]) (by
        have := List.length_erase_of_mem (hm i h1 h2)
        omega) (by
        intro j hj hjf
        have hne : j ≠ i := by
          rintro rfl
          have := (getD_set (a := listed) (i := j) (j := j) (by omega)).2 (.inl rfl)
          rw [this] at hjf; cases hjf
        refine (List.mem_erase_of_ne hne).2 (hm j hj ?_)
        cases h : listed.getD j false
        · rfl
        · have := (getD_set (a := listed) (i := i) (j := j) (by omega)).2 (.inr h)
          rw [this] at hjf; cases hjf)
      exact this.congr fun j => getD_set (by omega)
theorem schedule_adm {ops : Array Oper} (hd : ∀ i, i < ops.size → ∀ e ∈ edgesAt ops i, e < i) (t : Nat) : Adm ops (fun _ => False) (Region.schedule true ops t) := by
  unfold Region.schedule
  simp only [Bool.true_or, if_true]
  refine (linearise_adm hd ops.size t (Array.replicate ops.size false) (List.range ops.size) (by simp) (by simp) (fun i hi _ => List.mem_range.2 hi)).congr fun i => ?_
  simp [Array.getD_eq_getD_getElem?, Array.getElem?_replicate]
  split <;> rfl
end Go.Sx
