/- A part of a symbolic evaluator over the model and of the proof that it is right: 'SxM'. It holds for every program; no condition. -/
import Derived.Test.YtaebmdinecilbaaGreatDoorSxL
namespace Go.Sx

section
variable {P : Program} {ρ : Env} {st : St} {w : World}

/-! ## Builtins -/
def doLen (C : Ctx) (st : St) (ty : Nat) (x : V) : OpR :=
  match C.ty.get ty with
  | none => .bad 110
  | some i => match i.und, x with
    | .string, .str s => .val (.int .i64 (.lit s.length)) st
    | .array n _, _ => .val (.int .i64 (.lit n)) st
    | .slice _, .slice _ _ n _ => .val (.int .i64 (.lit n)) st
    | .slice _, .nilSlice => .val (.int .i64 (.lit 0)) st
    | .map _ _, .nilMap => .val (.int .i64 (.lit 0)) st
    | .map _ _, .map id => match st.h.get id with
      | some (.map es _) => .val (.int .i64 (.lit es.length)) st
      | _ => .bad 111
    | _, _ => .bad 112
theorem doLen_ok {C : Ctx} (hC : C.Ok P) (hR : Real ρ st w) (ty rty : Nat) (x : V) : VOk P ρ st w (Builtin.len_ #[ty] rty #[x.den ρ]) (doLen C st ty x) := by
  unfold doLen
  split
  · trivial
  rename_i i hi
  have hT := hC.get hi
  have e : ∀ v : Value, (Builtin.len_ #[ty] rty #[v]) = (do
      let d ← underlying ty
      match d, v with
      | TypeDesc.string, Value.string s => pure (goInt ↑s.size)
      | TypeDesc.array n elem, x => pure (goInt ↑n)
      | TypeDesc.pointer arr, x => do
        let __x ← underlying arr
        match __x with
          | TypeDesc.array n elem => pure (goInt ↑n)
          | x => stuck "len: pointer to array expected"
      | TypeDesc.slice elem, Value.slice a n cap => pure (goInt ↑n)
      | TypeDesc.map key elem, Value.map none => pure (goInt 0)
      | TypeDesc.chan dir elem, Value.chan none => pure (goInt 0)
      | TypeDesc.map key elem, Value.map (some r) => do
        let __x ← getObj r
        match __x with
          | Obj.map entries clock => pure (goInt ↑entries.size)
          | x => stuck "len: map expected"
      | TypeDesc.chan dir elem, Value.chan (some r) => do
        let __x ← getObj r
        match __x with
          | Obj.chan cap buf closed sent received timer => pure (goInt (if timer = true then 0 else ↑buf.size))
          | x => stuck "len: channel expected"
      | x, x_1 => stuck "len: string, array, pointer to array, slice, map or channel expected" : Sem Value) := fun v => rfl
  rw [e]
  split
  · rename_i s hu
    refine VOk.same hR trivial ?_
    simp only [Sem.run_bind, hT.run_und, Result.andThen_ok, hu, V.den, Sem.run_pure, goInt, Tm.den]
    simp [ByteArray.size]
  · rename_i n e' hu
    refine VOk.same hR trivial ?_
    simp only [Sem.run_bind, hT.run_und, Result.andThen_ok, hu, V.den, Sem.run_pure, goInt, Tm.den]
  · rename_i e' id off n cap hu
    refine VOk.same hR trivial ?_
    simp only [Sem.run_bind, hT.run_und, Result.andThen_ok, hu, V.den, Sem.run_pure, goInt, Tm.den]
  · rename_i e' hu
    refine VOk.same hR trivial ?_
    simp only [Sem.run_bind, hT.run_und, Result.andThen_ok, hu, V.den, Sem.run_pure, goInt, Tm.den]
    rfl
  · rename_i k e' hu
    refine VOk.same hR trivial ?_
    simp only [Sem.run_bind, hT.run_und, Result.andThen_ok, hu, V.den, Sem.run_pure, goInt, Tm.den]
  · rename_i k e' id hu
    split
    · rename_i es clock ho
      obtain ⟨h1, h2, obj, h3, h4⟩ := hR.obj id _ ho
      cases obj <;> simp only [ObRel] at h4
      refine VOk.same hR trivial ?_
      have hg : (getObj (ρ.b id)).run P w = .ok (.map (es.map fun e => { key := e.1.den ρ, val := e.2.1.den ρ, born := e.2.2 : MapEntry }).toArray clock) w := by
        simp only [getObj, Sem.run, h3]; rw [h4.1, h4.2]
      simp only [Sem.run_bind, hT.run_und, Result.andThen_ok, hu, V.den, hg, Sem.run_pure, goInt, Tm.den]
      simp
    · trivial
  · trivial

def doCap (C : Ctx) (st : St) (ty : Nat) (x : V) : OpR :=
  match C.ty.get ty with
  | none => .bad 113
  | some i => match i.und, x with
    | .slice _, .slice _ _ _ cap => bif atMost st.fc 0 cap then .val (.int .i64 cap) st else .bad 114
    | .slice _, .nilSlice => .val (.int .i64 (.lit 0)) st
    | _, _ => .bad 115

def min2 (fc : Facts) (x y : V) : Option V :=
  match x, y with
  | .int k a, .int l b => bif kBeq k l then some (.int k (mkIte fc (mkLt fc b a) b a)) else none
  | _, _ => none
def max2 (fc : Facts) (x y : V) : Option V :=
  match x, y with
  | .int k a, .int l b => bif kBeq k l then some (.int k (mkIte fc (mkLt fc a b) b a)) else none
  | _, _ => none
def foldO (f : V → V → Option V) : V → List V → Option V
  | x, [] => some x
  | x, y :: l => match f x y with | some z => foldO f z l | none => none
def doMin (st : St) (l : List V) : OpR :=
  match l with
  | x :: r => match foldO (min2 st.fc) x r with | some v => .val v st | none => .bad 116
  | [] => .bad 117
def doMax (st : St) (l : List V) : OpR :=
  match l with
  | x :: r => match foldO (max2 st.fc) x r with | some v => .val v st | none => .bad 118
  | [] => .bad 119
theorem foldO_spec {f : V → V → Option V} {g : Value → Value → Sem Value} {n : Nat} (hf : ∀ x y z, f x y = some z → x.wf n → y.wf n → z.wf n ∧ (g (x.den ρ) (y.den ρ)).run P w = .ok (z.den ρ) w) :
    ∀ {l : List V} {x z : V}, foldO f x l = some z → x.wf n → V.wfL n l → z.wf n ∧ (List.foldlM g (x.den ρ) (V.denL ρ l)).run P w = .ok (z.den ρ) w
  | [], x, z, h, hx, _ => by simp [foldO] at h; subst h; exact ⟨hx, rfl⟩
  | y :: l, x, z, h, hx, hl => by
    simp only [foldO] at h
    split at h
    · rename_i u hu
      obtain ⟨h1, h2⟩ := hf x y u hu hx hl.1
      obtain ⟨h3, h4⟩ := foldO_spec hf h h1 hl.2
      refine ⟨h3, ?_⟩
      simp only [V.denL, List.foldlM_cons, Sem.run_bind, h2, Result.andThen_ok]
      exact h4
    · simp at h
theorem doMin_ok (hR : Real ρ st w) (tys : Array Nat) (rty : Nat) {l : List V} (hl : V.wfL st.nx l) : VOk P ρ st w (Builtin.min_ tys rty (V.denL ρ l).toArray) (doMin st l) := by
  unfold doMin
  split
  · rename_i x r
    split
    · rename_i v hv
      obtain ⟨h1, h2⟩ := foldO_spec (P := P) (ρ := ρ) (w := w) (g := Builtin.min2) (n := st.nx) (fun x y z hz hx hy => by
        cases x <;> simp only [min2] at hz <;> try (simp at hz; done)
        cases y <;> simp only [reduceCtorEq] at hz
        rename_i k a l b
        cases hk : kBeq k l <;> simp [hk] at hz
        subst hz
        have := kBeq_eq hk; subst this
        refine ⟨mkIte_wf (mkLt_wf hy hx) hy hx, ?_⟩
        simp only [V.den, Builtin.min2, Sem.run_pure, mkIte_den hR.fc, mkLt_den hR.fc]
        by_cases h : b.den ρ < a.den ρ <;> simp [h, b2i]) hv hl.1 hl.2
      refine VOk.same hR h1 ?_
      simp only [Builtin.min_, V.denL]
      exact h2
    · trivial
  · trivial
theorem doMax_ok (hR : Real ρ st w) (tys : Array Nat) (rty : Nat) {l : List V} (hl : V.wfL st.nx l) : VOk P ρ st w (Builtin.max_ tys rty (V.denL ρ l).toArray) (doMax st l) := by
  unfold doMax
  split
  · rename_i x r
    split
    · rename_i v hv
      obtain ⟨h1, h2⟩ := foldO_spec (P := P) (ρ := ρ) (w := w) (g := Builtin.max2) (n := st.nx) (fun x y z hz hx hy => by
        cases x <;> simp only [max2] at hz <;> try (simp at hz; done)
        cases y <;> simp only [reduceCtorEq] at hz
        rename_i k a l b
        cases hk : kBeq k l <;> simp [hk] at hz
        subst hz
        have := kBeq_eq hk; subst this
        refine ⟨mkIte_wf (mkLt_wf hx hy) hy hx, ?_⟩
        simp only [V.den, Builtin.max2, Sem.run_pure, mkIte_den hR.fc, mkLt_den hR.fc]
        by_cases h : a.den ρ < b.den ρ
        · simp [h, b2i]
        · simp [h, b2i]) hv hl.1 hl.2
      refine VOk.same hR h1 ?_
      simp only [Builtin.max_, V.denL]
      exact h2
    · trivial
  · trivial
theorem doCap_ok {C : Ctx} (hC : C.Ok P) (hR : Real ρ st w) (ty rty : Nat) {x : V} (hx : x.wf st.nx) : VOk P ρ st w (Builtin.cap_ #[ty] rty #[x.den ρ]) (doCap C st ty x) := by
  unfold doCap
  split
  · trivial
  rename_i i hi
  have hT := hC.get hi
  split
  · rename_i e' id off len cap hu
    cases hb : atMost st.fc 0 cap
    · trivial
    · have h0 := atMost_ok hR.fc hb
      refine VOk.same hR (v := .int .i64 cap) hx.2 ?_
      simp [Builtin.cap_, hT.run_und, hu, V.den, goInt]
      omega
  · rename_i e' hu
    refine VOk.same hR trivial ?_
    simp [Builtin.cap_, hT.run_und, hu, V.den, goInt]
  · trivial
end
end Go.Sx
