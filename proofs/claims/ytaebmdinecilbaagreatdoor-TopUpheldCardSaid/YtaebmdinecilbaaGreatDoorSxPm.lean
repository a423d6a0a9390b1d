/- A part of a symbolic evaluator over the model and of the proof that it is right: 'SxPm'. It holds for every program; no condition. -/
import Derived.Test.YtaebmdinecilbaaGreatDoorSxPl
namespace Go.Sx
section
variable {P : Program} {c : PC} {ρ0 : Env} {st0 : St} {w0 : World} {s : PSt} {ρ : Env} {st : St} {fr : Fr} {a' : Act} {b : Frame} {cs : List Frame} {k : List Item}

def regM (b : Frame) (cs : List Frame) (all : Array Oper) (k : List Item) (sch : List Nat) (a : Act) (w : World) : Machine := lone (b.atR a (.inRegion all sch :: k)) cs w

theorem step_value {all : Array Oper} {i : Nat} {o : Oper} {rest : List Nat} {a : Act} {w w1 : World} {u : Value} (hb : noDef o) (ho : all[i]? = some o) (hw : Region.wanted o (yielded all a.tmps) = true)
    (hr : (execOp a.eval o).run P w = .ok (.value u) w1) : Steps P (regM b cs all k (i :: rest) a w) (regM b cs all k rest (a.put o.dst u) w1) := by
  have hg := stepGR_op (P := P) (b := b) (a := a) (k := k) (cs := cs) (w := w) (rest := rest) ho hw
  rw [Oper.semAt_eq _ _ _ hb] at hg
  have hfin : (b.atR a (.inRegion all (i :: rest) :: k)).finish u = b.atR (a.put o.dst u) (.inRegion all rest :: k) := by
    rw [Frame.finish_atR, ho]; rfl
  refine .one (step_lone_go ?_)
  rw [hg, ← hfin]; simp [stepG.apply, hr]
theorem step_undef {all : Array Oper} {i : Nat} {o : Oper} {rest : List Nat} {a : Act} {w : World} (ho : all[i]? = some o) (hw : Region.wanted o (yielded all a.tmps) = false) :
    Steps P (regM b cs all k (i :: rest) a w) (regM b cs all k rest (a.put o.dst undef) w) := by
  have := stepR_op_skip (P := P) (b := b) (a := a) (k := k) (cs := cs) (w := w) (ops := all) (i := i) (rest := rest) (by rw [ho]; exact hw)
  rw [ho] at this
  exact .one this

theorem phase_at {next : Option Nat} (h : phaseOk c s next = true) {i : Nat} (hi : i < c.ops.size) :
    (bit c.N i = true → bit s.E i = false → waits c s i = true) ∧ (bit c.N i = true → bit s.E i = true → bit s.K i = true ∨ bit s.M i = true) ∧
    (bit c.G i = true → bit s.E i = false → bit s.Q i = true ∨ waits c s i = true) ∧
    (bit c.X i = true → bit s.E i = false → ∃ x, next = some x ∧ (i = x ∨ anc c.tbl i x = true)) := by
  have h := List.all_eq_true.1 h i (List.mem_range.2 hi)
  simp only [Bool.and_eq_true] at h
  obtain ⟨⟨⟨h1, h2⟩, h3⟩, h4⟩ := h
  refine ⟨fun a b => ?_, fun a b => ?_, fun a b => ?_, fun a b => ?_⟩
  · rw [a, b] at h1; simpa using h1
  · rw [a, b] at h2; simpa using h2
  · rw [a, b] at h3; simpa using h3
  · rw [a, b] at h4
    simp only [Bool.not_true, Bool.false_or] at h4
    cases next with
    | none => simp at h4
    | some x =>
      simp only [Bool.or_eq_true] at h4
      exact ⟨x, rfl, h4.imp Nat.eq_of_beq_eq_true id⟩

/-- reality comes as far as the next operation of the chain -/
theorem run_phase (hg : PGood c) {next : Option Nat} (hph : phaseOk c s next = true) (hnx : ∀ x, next = some x → bit c.X x = true ∧ bit s.E x = false ∧ x < c.ops.size) (hP : Prom P c s ρ st a') :
    ∀ (sch : List Nat) (D : Nat → Prop) (κ : Nat → World × World × Value) (w : World) (a : Act), Inv P c ρ0 st0 w0 s D κ ρ st w fr a a' → Adm c.ops D sch →
    ∃ D1 κ1 w1 a1 sch1, Inv P c ρ0 st0 w0 s D1 κ1 ρ st w1 fr a1 a' ∧ Adm c.ops D1 sch1 ∧ Steps P (regM b cs c.ops k sch a w) (regM b cs c.ops k sch1 a1 w1) ∧
      (∀ x, next = some x → ∃ rest, sch1 = x :: rest) ∧ (next = none → sch1 = [])
  | [], D, κ, w, a, hI, hA => by
    refine ⟨D, κ, w, a, [], hI, hA, Steps.refl _ _, fun x hx => ?_, fun _ => rfl⟩
    obtain ⟨h1, h2, h3⟩ := hnx x hx
    cases hA with
    | nil h => rw [(hI.cx x h1).2 (h x h3)] at h2; cases h2
  | i :: rest, D, κ, w, a, hI, hA => by
    cases hA with
    | cons hi hnD hed hA1 =>
    have ho : c.ops[i]? = some c.ops[i] := Array.getElem?_eq_getElem hi
    generalize c.ops[i] = o at ho
    obtain ⟨p1, p2, p3, p4⟩ := phase_at hph hi
    have hdi := dstAt_eq ho
    have hw : waits c s i = true → False := by
      intro h
      unfold waits at h
      rw [List.any_eq_true] at h
      obtain ⟨e, he, h⟩ := h
      simp only [Bool.and_eq_true, Bool.not_eq_true'] at h
      have hD := hed e he
      have hel := hI.dlt e hD
      rcases hg.cls e hel with ⟨q, _, _⟩ | ⟨_, q, _⟩ | ⟨_, _, q⟩
      · rw [(hI.cx e q).2 hD] at h; simp at h
      · rw [hI.cn e q hD] at h; simp at h
      · rw [q] at h; simp at h
    rcases hg.cls i hi with ⟨q, _, _⟩ | ⟨qx, q, qg⟩ | ⟨qx, qn, q⟩
    · -- the chain
      have hE : bit s.E i = false := by
        cases h : bit s.E i
        · rfl
        · exact absurd ((hI.cx i q).1 h) hnD
      obtain ⟨x, hx, h⟩ := p4 q hE
      rcases h with rfl | h
      · refine ⟨D, κ, w, a, _, hI, .cons hi hnD hed hA1, Steps.refl _ _, fun y hy => ?_, fun h => ?_⟩
        · rw [hx] at hy; cases hy; exact ⟨rest, rfl⟩
        · rw [hx] at h; cases h
      · obtain ⟨h1, h2, h3⟩ := hnx x hx
        have : D x := anc_edges (E := D) hg hI.dcl hi hed h
        rw [(hI.cx x h1).2 this] at h2; cases h2
    · -- a plain one
      have hE : bit s.E i = true := by
        cases h : bit s.E i
        · exact (hw (p1 q h)).elim
        · rfl
      have hK : bit s.K i = true := by
        rcases p2 q hE with h | h
        · exact h
        · exact absurd (hI.md i h) hnD
      obtain ⟨_, _, o', u, ho', htm, hout⟩ := hP.n i hK
      rw [ho] at ho'; cases ho'
      have hbl := same_exec (all := c.ops) (a := a) (a' := a') (hg.kind i o ho) fun d hd => hI.agr.at_ d (notStale hg hI hi (hI.ecl i hi hE) hed (fun h => by rw [qx] at h; cases h) d (by rw [looks_eq ho]; exact hd))
      have hfin : ∀ w1, Step ρ st w ρ st w1 → Inv P c ρ0 st0 w0 s (fun j => j = i ∨ D j) κ ρ st w1 fr (a.put o.dst u) a' := by
        intro w1 hs
        refine ⟨hI.stp.trans hs, hI.fro, ⟨by rw [put_ds]; exact hI.agr.ds, by rw [put_size]; exact hI.agr.sz, fun d hd => ?_⟩, hI.ecl, fun j hj hD e he => ?_, fun j hj => hj.elim (fun e => e ▸ hi) (hI.dlt j), fun j hj => ?_, fun j h1 h2 => .inr (hI.cg j h1 h2), fun j h1 h2 => ?_, fun j oj h1 h2 h3 => ?_, fun j l h1 h2 h3 h4 => ?_, fun j h => .inr (hI.md j h)⟩
        · by_cases e : o.dst = some d
          · rcases Nat.lt_or_ge d a.tmps.size with hlt | hge
            · rw [e, put_get hlt, htm d e (by rw [← hI.agr.sz]; exact hlt)]
            · rw [Array.getElem?_eq_none (by rw [put_size]; exact hge), Array.getElem?_eq_none (by rw [← hI.agr.sz]; exact hge)]
          · rw [put_get_ne e]
            refine hI.agr.at_ d fun ⟨j, hj, hs⟩ => hd ⟨j, hj, ?_⟩
            have hne : j ≠ i := fun e' => e (by subst e'; rw [← hdi]; exact hj)
            exact hs.imp (fun h => ⟨h.1, fun h' => h'.elim hne h.2⟩) (fun h => ⟨.inr h.1, h.2⟩)
        · rcases hD with rfl | hD
          · exact .inr (hed e he)
          · exact .inr (hI.dcl j hj hD e he)
        · refine (hI.cx j hj).trans ⟨.inr, fun h => h.elim (fun e => ?_) id⟩
          subst e; rw [qx] at hj; cases hj
        · rcases h2 with rfl | h2
          · exact hE
          · exact hI.cn j h1 h2
        · rcases h1 with rfl | h1
          · rw [hE] at h2; cases h2
          · obtain ⟨g1, g2, g3⟩ := hI.pend j oj h1 h2 h3
            refine ⟨g1, g2, ⟨g3.run, g3.lo, Nat.le_trans g3.hi hs.size, fun x hx1 hx2 => ?_, fun d hd hsz => ?_⟩⟩
            · obtain ⟨e1, e2⟩ := g3.same x hx1 hx2
              refine ⟨?_, e2⟩
              rw [hs.keep x (Nat.lt_of_lt_of_le hx2 g3.hi) fun ⟨id, ob, h1, _, h2⟩ => e2 ⟨id, ob, h1, h2⟩]; exact e1
            · rw [put_size] at hsz
              rw [put_get_ne]
              · exact g3.tmp d hd hsz
              · intro e
                have hne : i ≠ j := by rintro rfl; rw [hE] at h2; cases h2
                exact hg.dst i j d hi (lt_ops h3) hne (by rw [dstAt_eq h3]; exact hd) (by rw [hdi]; exact e)
        · rcases h1 with rfl | h1
          · rw [hE] at h2; cases h2
          · rcases h3 with rfl | h3
            · rw [hE] at h4; cases h4
            · exact hI.disj j l h1 h2 h3 h4
      rcases hout with ⟨hwf, rfl⟩ | ⟨hwt, hout⟩
      · obtain ⟨D1, κ1, w1, a1, sch1, r1, r2, r3, r4⟩ := run_phase hg hph hnx hP rest _ κ w _ (hfin w (Step.refl hI.stp.real)) hA1
        exact ⟨D1, κ1, w1, a1, sch1, r1, r2, (step_undef ho (by rw [hbl.2]; exact hwf)).trans r3, r4⟩
      · obtain ⟨w2, hs2, hr2⟩ := hout w hI.stp.real.bare
        have hs := hs2.ofBare hI.stp.real
        obtain ⟨D1, κ1, w1, a1, sch1, r1, r2, r3, r4⟩ := run_phase hg hph hnx hP rest _ κ w2 _ (hfin w2 hs) hA1
        exact ⟨D1, κ1, w1, a1, sch1, r1, r2, (step_value (hg.kind2 i o ho) ho (by rw [hbl.2]; exact hwt) (by rw [hbl.1]; exact hr2)).trans r3, r4⟩
    · -- a fresh one
      have hE : bit s.E i = false := by
        cases h : bit s.E i
        · rfl
        · exact absurd (hI.cg i q h) hnD
      have hQ : bit s.Q i = true := (p3 q hE).elim id fun h => (hw h).elim
      obtain ⟨_, hEed, o', ho', hgu, hout⟩ := hP.g i hQ
      rw [ho] at ho'; cases ho'
      have hbl := same_exec (all := c.ops) (a := a) (a' := a') (hg.kind i o ho) fun d hd => hI.agr.at_ d (notStale hg hI hi hEed hed (fun h => by rw [qx] at h; cases h) d (by rw [looks_eq ho]; exact hd))
      obtain ⟨u, w2, hgr, hr2⟩ := hout w
      have hs := hgr.step hI.stp.real
      have hwt : Region.wanted o (yielded c.ops a.tmps) = true := by unfold Region.wanted; rw [hgu]
      have hfin : Inv P c ρ0 st0 w0 s (fun j => j = i ∨ D j) (fun j => if j = i then (w, w2, u) else κ j) ρ st w2 fr (a.put o.dst u) a' := by
        refine ⟨hI.stp.trans hs, hI.fro, ⟨by rw [put_ds]; exact hI.agr.ds, by rw [put_size]; exact hI.agr.sz, fun d hd => ?_⟩, hI.ecl, fun j hj hD e he => ?_, fun j hj => hj.elim (fun e => e ▸ hi) (hI.dlt j), fun j hj => ?_, fun j h1 h2 => .inr (hI.cg j h1 h2), fun j h1 h2 => ?_, fun j oj h1 h2 h3 => ?_, fun j l h1 h2 h3 h4 hne => ?_, fun j h => .inr (hI.md j h)⟩
        · have e : o.dst ≠ some d := fun e => hd ⟨i, by rw [hdi]; exact e, .inr ⟨.inl rfl, hE⟩⟩
          rw [put_get_ne e]
          refine hI.agr.at_ d fun ⟨j, hj, hs⟩ => hd ⟨j, hj, ?_⟩
          have hne : j ≠ i := fun e' => e (by subst e'; rw [← hdi]; exact hj)
          exact hs.imp (fun h => ⟨h.1, fun h' => h'.elim hne h.2⟩) (fun h => ⟨.inr h.1, h.2⟩)
        · rcases hD with rfl | hD
          · exact .inr (hed e he)
          · exact .inr (hI.dcl j hj hD e he)
        · refine (hI.cx j hj).trans ⟨.inr, fun h => h.elim (fun e => ?_) id⟩
          subst e; rw [qx] at hj; cases hj
        · rcases h2 with rfl | h2
          · rw [qn] at h1; cases h1
          · exact hI.cn j h1 h2
        · by_cases e : j = i
          · subst e
            rw [ho] at h3; cases h3
            refine ⟨hgu, hEed, ?_⟩
            simp only [if_true]
            refine ⟨hr2, hI.stp.size, Nat.le_refl _, fun x hx1 hx2 => ⟨rfl, ?_⟩, fun d hd hsz => ?_⟩
            · rintro ⟨id, ob, h1, h2⟩
              have := hI.stp.real.lt h1
              simp only at hx1
              omega
            · rw [put_size] at hsz; rw [hd]; exact put_get hsz
          · have h1 := h1.resolve_left e
            obtain ⟨g1, g2, g3⟩ := hI.pend j oj h1 h2 h3
            refine ⟨g1, g2, ?_⟩
            simp only [if_neg e]
            refine ⟨g3.run, g3.lo, Nat.le_trans g3.hi hs.size, fun x hx1 hx2 => ?_, fun d hd hsz => ?_⟩
            · obtain ⟨e1, e2⟩ := g3.same x hx1 hx2
              refine ⟨?_, e2⟩
              rw [hs.keep x (Nat.lt_of_lt_of_le hx2 g3.hi) fun ⟨id, ob, h1, _, h2⟩ => e2 ⟨id, ob, h1, h2⟩]; exact e1
            · rw [put_size] at hsz
              rw [put_get_ne]
              · exact g3.tmp d hd hsz
              · intro e'
                exact hg.dst i j d hi (lt_ops h3) (Ne.symm e) (by rw [dstAt_eq h3]; exact hd) (by rw [hdi]; exact e')
        · have old : ∀ m, (m = i ∨ D m) → bit s.E m = false → m ≠ i → (κ m).2.1.heap.size ≤ w.heap.size := by
            intro m hm1 hm2 hm3
            have hm1 := hm1.resolve_left hm3
            have hml := hI.dlt m hm1
            exact (hI.pend m _ hm1 hm2 (Array.getElem?_eq_getElem hml)).2.2.hi
          by_cases e : j = i
          · subst e
            have e2 : l ≠ j := Ne.symm hne
            simp only [if_true, if_neg e2]
            exact .inr (old l h3 h4 e2)
          · by_cases e2 : l = i
            · subst e2
              simp only [if_true, if_neg e]
              exact .inl (old j h1 h2 e)
            · simp only [if_neg e, if_neg e2]
              exact hI.disj j l (h1.resolve_left e) h2 (h3.resolve_left e2) h4 hne
      obtain ⟨D1, κ1, w1, a1, sch1, r1, r2, r3, r4⟩ := run_phase hg hph hnx hP rest _ _ w2 _ hfin hA1
      exact ⟨D1, κ1, w1, a1, sch1, r1, r2, (step_value (hg.kind2 i o ho) ho hwt (by rw [hbl.1]; exact hr2)).trans r3, r4⟩
end
end Go.Sx
