/- A part of a symbolic evaluator over the model and of the proof that it is right: 'SxX'. It holds for every program; no condition. -/
import Derived.Test.YtaebmdinecilbaaGreatDoorSxW
import Derived.Below
namespace Go.Sx

/-! ## From the evaluator to the kit's contracts -/
/-- an end that is a value, of which p holds -/
def retAll (p : V → St → Bool) (r : Out × St) : Bool :=
  match r.1 with
  | .call (.ret v) => p v r.2
  | _ => false

theorem calls_of_ev {C : Ctx} {P : Program} (hC : C.Ok P) (hM : P.follows .mixedOrders = true) (hPl : PlansOk C) (hSm : SumsOk P C) {f g : Nat} {args : List V} {st : St} {ρ : Env} {w : World} (hR : Real ρ st w) (hw : V.wfL st.nx args)
    {p : V → St → Bool} (h : (ev C f (.call .normal g args) st).all (retAll p) = true) :
    Calls P g (V.denL ρ args).toArray w fun e w' => ∃ v ρ' st', e = .returned (v.den ρ') ∧ Step ρ st w ρ' st' w' ∧ v.wf st'.nx ∧ p v st' = true := by
  intro cs
  obtain ⟨ρ', r, _, ⟨w', hs, fr', hfn, hst, hq⟩, hp⟩ := ((sound hC hM hPl hSm f).call .normal g args st ρ w cs hR hw (.inl rfl)).out h
  rcases hq with ⟨v, e, hv, hl⟩ | ⟨v, e, hv, hl⟩
  · unfold retAll at hp
    rw [e] at hp
    exact ⟨.returned (v.den ρ'), w', fr', ⟨v, ρ', r.2, rfl, hs, hv, hp⟩, hst, hfn, hl.1, hl.2.1, hl.2.2.1, hl.2.2.2⟩
  · unfold retAll at hp
    rw [e] at hp
    simp at hp

/-- nothing is known -/
def st0 : St := { h := .e, nx := 0, fc := [] }
def ρ0 : Env := ⟨fun _ => 0, fun _ => 0, fun _ => 0, fun _ => .nilIface⟩
theorem real0 (ρ : Env) (w : World) : Real ρ st0 w :=
  ⟨fun id o h => by simp [st0, Tr.get] at h, fun id id' o o' h => by simp [st0, Tr.get] at h, fun f hf => by simp [st0] at hf, fun f hf => by simp [st0] at hf⟩

theorem Step.below {ρ ρ' : Env} {st st' : St} {w w' : World} (h : Step ρ st w ρ' st' w') {B : Nat} (hB : B ≤ w.heap.size) (hi : ∀ k, k < B → ¬ Img ρ st k) : RowKit.Below B w w' :=
  ⟨h.os, h.tape, h.output, h.size, fun k hk => h.keep k (by omega) (hi k hk)⟩

def isTrue (v : V) (st : St) : Bool :=
  match v with
  | .bool c => match tv st.fc c with | some b => b | none => false
  | _ => false
theorem isTrue_spec {ρ : Env} {v : V} {st : St} {w : World} (hR : Real ρ st w) (h : isTrue v st = true) : v.den ρ = .bool true := by
  unfold isTrue at h
  split at h
  · split at h
    · rename_i b hb
      subst h
      simp only [V.den, tv_sound hR.fc hb]
    · simp at h
  · simp at h

/-- a closed call that comes to true -/
theorem calls_true {C : Ctx} {P : Program} (hC : C.Ok P) (hM : P.follows .mixedOrders = true) (hPl : PlansOk C) (hSm : SumsOk P C) {f g : Nat} (w : World) (h : (ev C f (.call .normal g []) st0).all (retAll isTrue) = true) :
    Calls P g #[] w fun e w' => e = .returned (.bool true) ∧ RowKit.Below w.heap.size w w' := by
  have := calls_of_ev hC hM hPl hSm (real0 ρ0 w) (args := []) trivial h
  refine Calls.mono this ?_
  rintro e w' ⟨v, ρ', st', rfl, hs, hv, hp⟩
  refine ⟨by rw [isTrue_spec hs.real hp], hs.below (Nat.le_refl _) ?_⟩
  rintro k _ ⟨id, o, ho, _⟩
  simp [st0, Tr.get] at ho

/-- a closed function that comes to true -/
def sumTrue : Summ := fun st args => match args with | [] => some (.bool (.lit 1), st) | _ => none
theorem sumTrue_ok {P : Program} {g : Nat} (h : ∀ w, Calls P g #[] w fun e w' => e = .returned (.bool true) ∧ RowKit.Below w.heap.size w w') : SumOk P g sumTrue := by
  intro ρ st w args v st1 cs hR hw hs
  unfold sumTrue at hs
  split at hs
  · simp only [Option.some.injEq, Prod.mk.injEq] at hs
    obtain ⟨rfl, rfl⟩ := hs
    obtain ⟨e, w', fr, ⟨rfl, hb⟩, hst, hfn, hl⟩ := h w cs
    have hg : Grow w w' := ⟨hb.os, hb.tape, hb.output, hb.size, hb.block⟩
    exact ⟨ρ, w', fr, hg.step hR, trivial, hfn, hst, hl.1, hl.2.1, hl.2.2.1, hl.2.2.2⟩
  · simp at hs
end Go.Sx
