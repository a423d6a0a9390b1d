/- A part of a symbolic evaluator over the model and of the proof that it is right: 'SxLp'. It holds for every program; no condition. -/
import Derived.Test.YtaebmdinecilbaaGreatDoorSxPn
import Derived.Defers
import Derived.RangeFuncIn
import Derived.RangeFuncLeaves
namespace Go.Sx

/-! ## Loops over functions -/
def getLp (st : St) (id : Nat) : Option ALoop := match st.h.get id with | some (.loop l) => some l | _ => none
def setLp (st : St) (id : Nat) (l : ALoop) : St := { st with h := st.h.set id (.loop l) }
theorem getLp_eq {st : St} {id : Nat} {l : ALoop} (h : getLp st id = some l) : st.h.get id = some (.loop l) := by
  unfold getLp at h
  split at h
  · rename_i l' h'; simp at h; subst h; exact h'
  · simp at h

def setParams (sz : Nat) : List Tmp → List V → Tr V → Option (Tr V)
  | [], [], t => some t
  | p :: ps, v :: vs, t => bif Nat.blt p sz then setParams sz ps vs (t.set p v) else none
  | _, _, _ => none

section
variable {P : Program} {ρ : Env} {st : St} {w : World}

theorem setParams_ok {n sz : Nat} : ∀ {ps : List Tmp} {vs : List V} {t t' : Tr V} {tmps : Array Value}, setParams sz ps vs t = some t' → TRel ρ n t tmps → tmps.size = sz → V.wfL n vs →
    ps.length = vs.length ∧ TRel ρ n t' ((ps.zip (V.denL ρ vs)).foldl (fun tmps (x : Nat × Value) => tmps.setIfInBounds x.1 x.2) tmps) ∧ ((ps.zip (V.denL ρ vs)).foldl (fun tmps (x : Nat × Value) => tmps.setIfInBounds x.1 x.2) tmps).size = sz
  | [], [], t, t', tmps, h, hT, hs, _ => by simp [setParams] at h; subst h; exact ⟨rfl, hT, hs⟩
  | p :: ps, v :: vs, t, t', tmps, h, hT, hs, hw => by
    simp only [setParams] at h
    cases hb : Nat.blt p sz <;> simp [hb] at h
    have hlt : p < tmps.size := by rw [hs]; simpa [Nat.blt_eq] using hb
    obtain ⟨h1, h2, h3⟩ := setParams_ok h (hT.set hw.1 hlt) (by simp [hs]) hw.2
    exact ⟨by simp [h1], h2, h3⟩
  | [], _ :: _, _, _, _, h, _, _, _ => by simp [setParams] at h
  | _ :: _, [], _, _, _, h, _, _, _ => by simp [setParams] at h

theorem loop_at (hR : Real ρ st w) {id : Nat} {l : ALoop} (ho : st.h.get id = some (.loop l)) :
    ∃ r, w.heap[ρ.b id]? = some (.loop r) ∧ ObRel ρ id (.loop l) (.loop r) ∧ (Instr.getLoop (ρ.b id)).run P w = .ok r w := by
  obtain ⟨h1, h2, obj, h3, h4⟩ := hR.obj id _ ho
  cases obj <;> simp only [ObRel] at h4
  rename_i r
  refine ⟨r, h3, h4, ?_⟩
  simp only [Instr.getLoop, Sem.run_bind, run_getObj (P := P) h3 (by simp), Result.andThen_ok, Sem.run_pure]

theorem loop_set (hR : Real ρ st w) {id : Nat} {l : ALoop} (ho : st.h.get id = some (.loop l)) {r : Loop} (hr : w.heap[ρ.b id]? = some (.loop r)) (hrel : ObRel ρ id (.loop l) (.loop r))
    (s : LoopState) (p : Option Code) (hp : ∀ c, p = some c → ∀ pl, codeOk planOk pl c = true) :
    ∃ w', Step ρ st w ρ (setLp st id { l with state := s, pending := p }) w' ∧ (setObj (ρ.b id) (.loop { r with state := s, pending := p })).run P w = .ok () w' := by
  obtain ⟨_, hwf, _⟩ := hR.obj id _ ho
  refine ⟨_, Step.write hR (o' := .loop { l with state := s, pending := p }) (obj := .loop { r with state := s, pending := p }) ho rfl ?_ ?_, run_setObj hr (by simp)⟩
  · obtain ⟨h1, h2, h3, h4, h5, h6, h7, h8, h9⟩ := hrel
    exact ⟨rfl, rfl, h3, h4, h5, h6, h7, h8, h9⟩
  · exact ⟨hwf.1, hwf.2.1, hwf.2.2.1, hwf.2.2.2.1, hp⟩

theorem good_pend (hR : Real ρ st w) {id : Nat} {l : ALoop} (ho : st.h.get id = some (.loop l)) : l.good := (hR.obj id _ ho).2.1.2.2

theorem run_beginRound (hR : Real ρ st w) {id : Nat} {l : ALoop} (ho : getLp st id = some l) (hs : l.state = .ready) :
    ∃ w', Step ρ st w ρ (setLp st id { l with state := .busy }) w' ∧ (Instr.beginRound (ρ.b id)).run P w = .ok () w' := by
  have ho := getLp_eq ho
  obtain ⟨r, h1, h2, h3⟩ := loop_at (P := P) hR ho
  obtain ⟨w', h4, h5⟩ := loop_set (P := P) hR ho h1 h2 .busy l.pending (good_pend hR ho).2.2
  refine ⟨w', h4, ?_⟩
  have e1 : r.state = .ready := h2.1.trans hs
  have e2 : r.pending = l.pending := h2.2.1
  rw [← e2] at h5
  simp only [Instr.beginRound, Sem.run_bind, h3, Result.andThen_ok, h5, e1, Sem.run_pure]

def jumpOk : Option Code → Prop
  | none => True
  | some .ret => True
  | some (.exit _) => True
  | some (.goto _) => True
  | _ => False
theorem jumpOk_plans {j : Option Code} (h : jumpOk j) : ∀ c, j = some c → ∀ pl, codeOk planOk pl c = true := by
  rintro c rfl pl
  cases c <;> simp only [jumpOk] at h <;> rfl

def roundState : Option Code → LoopState
  | none => .ready
  | some _ => .done
theorem run_endRound (hR : Real ρ st w) {id : Nat} {l : ALoop} (ho : getLp st id = some l) {j : Option Code} (hj : jumpOk j) :
    ∃ w', Step ρ st w ρ (setLp st id { l with state := (roundState j), pending := j }) w' ∧ (Instr.endRound (ρ.b id) j).run P w = .ok (.bool j.isNone) w' := by
  have ho := getLp_eq ho
  obtain ⟨r, h1, h2, h3⟩ := loop_at (P := P) hR ho
  obtain ⟨w', h4, h5⟩ := loop_set (P := P) hR ho h1 h2 (roundState j) j (jumpOk_plans hj)
  refine ⟨w', h4, ?_⟩
  have e : (if j.isNone = true then LoopState.ready else .done) = roundState j := by cases j <;> rfl
  simp only [Instr.endRound, Sem.run_bind, h3, Result.andThen_ok, e, h5, Sem.run_pure]

theorem run_endLoop (hR : Real ρ st w) {id : Nat} {l : ALoop} (ho : getLp st id = some l) (hs : l.state ≠ .busy) :
    ∃ w', Step ρ st w ρ (setLp st id { l with state := .exhausted }) w' ∧ (Instr.endLoop (ρ.b id)).run P w = .ok l.pending w' := by
  have ho := getLp_eq ho
  obtain ⟨r, h1, h2, h3⟩ := loop_at (P := P) hR ho
  obtain ⟨w', h4, h5⟩ := loop_set (P := P) hR ho h1 h2 .exhausted l.pending (good_pend hR ho).2.2
  refine ⟨w', h4, ?_⟩
  have e1 : (r.state == .busy) = false := by
    have : r.state = l.state := h2.1
    rw [this]
    cases hq : l.state <;> first | rfl | exact absurd hq hs
  have e2 : r.pending = l.pending := h2.2.1
  rw [← e2] at h5 ⊢
  simp only [Instr.endLoop, Sem.run_bind, h3, Result.andThen_ok, e1, Bool.false_eq_true, if_false, h5, Sem.run_pure]

theorem run_takeDeferred (hR : Real ρ st w) {id : Nat} {l : List AD} (ho : st.h.get id = some (.deferred (some l))) :
    ∃ w', Step ρ st w ρ { st with h := st.h.set id (.deferred none) } w' ∧ (Instr.takeDeferred (ρ.b id)).run P w = .ok (l.map (AD.den ρ)) w' ∧ ∀ d ∈ l, d.wf st.nx := by
  obtain ⟨h1, h2, obj, h3, h4⟩ := hR.obj id _ ho
  cases obj <;> simp only [ObRel] at h4
  rename_i o'
  simp only [Option.map_some] at h4
  subst h4
  refine ⟨_, Step.write hR (o' := .deferred none) (obj := .deferred none) ho rfl rfl (by intro l hl; simp at hl), ?_, h2 l rfl⟩
  simp only [Instr.takeDeferred, Sem.run_bind, run_getObj (P := P) h3 (by simp), Result.andThen_ok, run_setObj (P := P) h3 (by simp), Sem.run_pure]

/-! ## Entering a loop -/
structure BOk (ρ : Env) (n : Nat) (fc : FC) (b : Frame) (cs : List Frame) : Prop where
  fn : b.fn = fc.fn
  ro : b.roundOf = fc.ro.map ρ.b
  rw : ∀ id, fc.ro = some id → id < n
  kd : b.kind = fc.kind
  dk : fc.kind = .normal ∨ (fc.kind = .deferred ∧ ∃ c cs', cs = c :: cs' ∧ c.mode = .returning)
theorem BOk.agree {ρ ρ' : Env} {n n' : Nat} {fc : FC} {b : Frame} {cs : List Frame} (h : BOk ρ n fc b cs) (ha : Env.agree n ρ ρ') (hn : n ≤ n') : BOk ρ' n' fc b cs :=
  ⟨h.fn, by
    rw [h.ro]
    cases hr : fc.ro with
    | none => rfl
    | some id => simp [(ha id (h.rw id hr)).2.1], fun id hr => Nat.lt_of_lt_of_le (h.rw id hr) hn, h.kd, h.dk⟩

def mkLp (fc : FC) (fr : Fr) (ps : Array Tmp) (assign body : Code) (d : Nat) : ALoop :=
  { state := .ready, pending := none, fn := fc.fn, t := fr.t, sz := fr.sz, params := ps, assign := assign, body := body, defers := d, pl := fc.pl }
def enterRF (fc : FC) (fr : Fr) (ps : Array Tmp) (assign body : Code) (st : St) : Option (Nat × Fr × St) :=
  match fc.ro with
  | none => some (Nat.add st.nx 1, { fr with ds := .collected st.nx :: fr.ds },
      { st with h := (st.h.set st.nx (.deferred (some []))).set (Nat.add st.nx 1) (.loop (mkLp fc fr ps assign body st.nx)), nx := Nat.add st.nx 2 })
  | some r => match getLp st r with
    | some l0 => some (st.nx, fr, { st with h := st.h.set st.nx (.loop (mkLp fc fr ps assign body l0.defers)), nx := Nat.add st.nx 1 })
    | none => none

theorem enterRF_ok {fc : FC} {fr fr1 : Fr} {b : Frame} {cs : List Frame} {a : Act} {ps : Array Tmp} {assign body : Code} {id : Nat} {st1 : St} (hR : Real ρ st w) (hB : BOk ρ st.nx fc b cs) (hF : FrOk ρ st.nx fr a)
    (hg1 : codeOk planOk fc.pl assign = true) (hg2 : codeOk planOk fc.pl body = true) (h : enterRF fc fr ps assign body st = some (id, fr1, st1)) :
    ∃ ρ1 w1 mark, Step ρ st w ρ1 st1 w1 ∧ (Instr.enterLoop b.fn a.tmps ps assign body b.roundOf).run P w = .ok (ρ1.b id, mark) w1 ∧ FrOk ρ1 st1.nx fr1 { a with defers := mark ++ a.defers } ∧ id < st1.nx := by
  unfold enterRF at h
  split at h
  · rename_i hro
    simp only [Option.some.injEq, Prod.mk.injEq] at h
    obtain ⟨rfl, rfl, rfl⟩ := h
    have s1 := Step.alloc hR (o := .deferred (some [])) (obj := .deferred (some [])) (by simp [ObRel]) (by intro l hl d hd; simp at hl; subst hl; simp at hd)
    have hF1 := hF.agree s1.agree s1.nx
    have hne : st.nx + 1 ≠ st.nx := by omega
    have s2 := Step.alloc s1.real (o := .loop (mkLp fc fr ps assign body st.nx)) (obj := .loop { state := .ready, pending := none, fn := b.fn, tmps := a.tmps, params := ps, assign := assign, body := body, defers := w.heap.size })
      ⟨rfl, rfl, hB.fn, fun k v hk => by
        have := (hF1.agree (Env.agree_setB (ρ := ρ.setB st.nx w.heap.size 0) (n := st.nx + 1) (b := (w.alloc (.deferred (some []))).heap.size) (o := 0)) (Nat.le_refl _)).t k v hk
        exact this.1, hF.sz, rfl, rfl, rfl, by
        show w.heap.size = ((ρ.setB st.nx w.heap.size 0).setB (st.nx + 1) (w.alloc (.deferred (some []))).heap.size 0).b st.nx
        simp [Env.setB]⟩
      ⟨fun k v hk => V.wf_mono (by simp; omega) (hF.t k v hk).2, by simp [mkLp]; omega, hg1, hg2, fun c hc => by simp [mkLp] at hc⟩
    refine ⟨_, _, [{ target := .collected w.heap.size, args := #[] }], s1.trans s2, ?_, ?_, by simp⟩
    · have hr : b.roundOf = none := by rw [hB.ro, hro]; rfl
      simp only [Instr.enterLoop, hr, Sem.run_bind, run_newObj, Result.andThen_ok, Sem.run_pure, bind_pure_comp]
      simp [Env.setB]
      rfl
    · have hF2 := hF1.agree s2.agree s2.nx
      refine ⟨hF2.t, hF2.sz, ?_, fun d hd => ?_⟩
      · have := hF2.ds
        simp only [List.cons_append, List.nil_append, List.map_cons]
        rw [← this]
        congr 1
        simp [AD.den, Env.setB]
      · rcases List.mem_cons.1 hd with rfl | hd
        · show st.nx < Nat.add st.nx 2
          simp
        · exact hF2.dw d hd
  · rename_i r hro
    split at h
    · rename_i l0 hl0
      simp only [Option.some.injEq, Prod.mk.injEq] at h
      obtain ⟨rfl, rfl, rfl⟩ := h
      have hl := getLp_eq hl0
      obtain ⟨r0, q1, q2, q3⟩ := loop_at (P := P) hR hl
      have hwf := (hR.obj r _ hl).2.1
      have hd : r0.defers = ρ.b l0.defers := q2.2.2.2.2.2.2.2.2
      have hlt : l0.defers < st.nx := hwf.2.1
      have s2 := Step.alloc hR (o := .loop (mkLp fc fr ps assign body l0.defers)) (obj := .loop { state := .ready, pending := none, fn := b.fn, tmps := a.tmps, params := ps, assign := assign, body := body, defers := r0.defers })
        ⟨rfl, rfl, hB.fn, fun k v hk => ((hF.agree (Env.agree_setB (b := w.heap.size) (o := 0)) (Nat.le_refl _)).t k v hk).1, hF.sz, rfl, rfl, rfl, by
          show r0.defers = (ρ.setB st.nx w.heap.size 0).b l0.defers
          simp [Env.setB, Nat.ne_of_lt hlt, hd]⟩
        ⟨fun k v hk => V.wf_mono (by omega) (hF.t k v hk).2, by simp [mkLp]; omega, hg1, hg2, fun c hc => by simp [mkLp] at hc⟩
      refine ⟨_, _, [], s2, ?_, ?_, by simp⟩
      · have hr : b.roundOf = some (ρ.b r) := by rw [hB.ro, hro]; rfl
        simp only [Instr.enterLoop, hr, Sem.run_bind, q3, Result.andThen_ok, Sem.run_pure, bind_pure_comp]
        simp [Env.setB]
      · have hF2 := hF.agree s2.agree s2.nx
        exact ⟨hF2.t, hF2.sz, hF2.ds, hF2.dw⟩
    · simp at h

/-! ## Leaving a round -/
def LeaveAt : Option Code → List Item → Prop
  | none, todo => todo = []
  | some .ret, todo => ∃ k, todo = .code .ret :: k
  | some (.exit n), todo => ∃ k, todo = .code (.exit n) :: k ∧ exitTo n k = none
  | some (.goto n), todo => ∃ k, todo = .code (.goto n) :: k ∧ gotoIn n k = none
  | _, _ => False
theorem LeaveAt.ok {j : Option Code} {todo : List Item} (h : LeaveAt j todo) : jumpOk j := by
  cases j with
  | none => trivial
  | some c => cases c <;> simp only [LeaveAt] at h <;> trivial
theorem step_leaveRound {b c : Frame} {cs : List Frame} {a : Act} {j : Option Code} {todo : List Item} {l : Nat} {v : Value} {w' : World} (h : LeaveAt j todo) (hb : b.roundOf = some l) (hk : b.kind = .normal)
    (hr : (Instr.endRound l j).run P w = .ok v w') : step P (lone (b.atR a todo) (c :: cs) w) = .next (lone (c.finish v) cs w') := by
  cases j with
  | none => simp only [LeaveAt] at h; subst h; exact stepR_round_end hb hk hr
  | some x =>
    cases x <;> simp only [LeaveAt] at h
    · obtain ⟨k, rfl, hx⟩ := h; exact stepR_round_exit hb hk hx hr
    · obtain ⟨k, rfl, hx⟩ := h; exact stepR_round_goto hb hk hx hr
    · obtain ⟨k, rfl⟩ := h; exact stepR_round_ret hb hk hr
end
end Go.Sx
