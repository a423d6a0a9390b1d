/- A part of a symbolic evaluator over the model and of the proof that it is right: 'SxPl'. It holds for every program; no condition. -/
import Derived.Test.YtaebmdinecilbaaGreatDoorSxZ
namespace Go.Sx

/-! ## A plan at work -/
def stale (c : PC) (s : PSt) (D : Nat → Prop) (k : Nat) : Prop := ∃ i, dstAt c.ops i = some k ∧ ((bit s.E i = true ∧ ¬ D i) ∨ (D i ∧ bit s.E i = false))

/-- what is known of the constants of a plan -/
structure PGood (c : PC) : Prop where
  anc : ancOk c.ops c.tbl = true
  cls : ∀ i, i < c.ops.size → (bit c.X i = true ∧ bit c.N i = false ∧ bit c.G i = false) ∨ (bit c.X i = false ∧ bit c.N i = true ∧ bit c.G i = false) ∨ (bit c.X i = false ∧ bit c.N i = false ∧ bit c.G i = true)
  kind : ∀ (i : Nat) (o : Oper), c.ops[i]? = some o → noSel o
  kind2 : ∀ (i : Nat) (o : Oper), c.ops[i]? = some o → noDef o
  own : ∀ i d, i < c.ops.size → dstAt c.ops i = some d → bit c.X i = true ∨ d ∉ looks c.ops i
  dst : ∀ i j d, i < c.ops.size → j < c.ops.size → i ≠ j → dstAt c.ops j = some d → dstAt c.ops i ≠ some d
  look : ∀ i j d, i < c.ops.size → j < c.ops.size → i ≠ j → dstAt c.ops j = some d → d ∈ looks c.ops i → Go.Sx.anc c.tbl i j = true ∨ (Go.Sx.anc c.tbl j i = true ∧ (bit c.X i = true ∨ bit c.X j = true))

theorem lt_ops {ops : Array Oper} {i : Nat} {o : Oper} (h : ops[i]? = some o) : i < ops.size := lt_of_some h
theorem dstAt_lt {ops : Array Oper} {i d : Nat} (h : dstAt ops i = some d) : i < ops.size := by
  unfold dstAt at h
  split at h
  · rename_i o ho; exact lt_of_some ho
  · simp at h
theorem dstAt_eq {ops : Array Oper} {i : Nat} {o : Oper} (h : ops[i]? = some o) : dstAt ops i = o.dst := by unfold dstAt; rw [h]
theorem looks_eq {ops : Array Oper} {i : Nat} {o : Oper} (h : ops[i]? = some o) : looks ops i = o.looksAt ops := by unfold looks; rw [h]

theorem pgood {c : PC} (h1 : ancOk c.ops c.tbl = true) (h2 : tmpOk c = true) : PGood c := by
  unfold tmpOk at h2
  have H := fun i (hi : i < c.ops.size) => List.all_eq_true.1 h2 i (List.mem_range.2 hi)
  have K : ∀ (i : Nat) (o : Oper), c.ops[i]? = some o → kindOk o = true := by
    intro i o ho
    have h := H i (lt_ops ho)
    simp only [Bool.and_eq_true] at h
    have := h.1.1.1.1.1.1
    unfold opAt at this
    rw [ho] at this
    simpa only [Bool.true_and] using this
  refine ⟨h1, fun i hi => ?_, fun i o ho => noSel_of (K i o ho), fun i o ho => noDef_of (K i o ho), fun i d hi hd => ?_, fun i j d hi hj hne hd => ?_, fun i j d hi hj hne hd hl => ?_⟩
  · have h := H i hi
    simp only [Bool.and_eq_true] at h
    obtain ⟨⟨⟨⟨⟨⟨_, a⟩, b⟩, d⟩, e⟩, _⟩, _⟩ := h
    revert a b d e
    cases bit c.X i <;> cases bit c.N i <;> cases bit c.G i <;> simp
  · have h := H i hi
    simp only [Bool.and_eq_true] at h
    have := h.1.2
    rw [hd] at this
    simp only [Bool.or_eq_true, Bool.not_eq_true'] at this
    rcases this with h | h
    · exact .inl h
    · exact .inr fun hm => by rw [List.elem_eq_true_of_mem hm] at h; cases h
  · have h := H i hi
    simp only [Bool.and_eq_true] at h
    have := List.all_eq_true.1 h.2 j (List.mem_range.2 hj)
    rw [hd] at this
    simp only [Bool.or_eq_true, Bool.and_eq_true] at this
    rcases this with h | h
    · exact absurd (Nat.eq_of_beq_eq_true h) hne
    · intro e
      have := h.1
      rw [e] at this
      simp at this
  · have h := H i hi
    simp only [Bool.and_eq_true] at h
    have := List.all_eq_true.1 h.2 j (List.mem_range.2 hj)
    rw [hd] at this
    simp only [Bool.or_eq_true, Bool.and_eq_true] at this
    rcases this with h | h
    · exact absurd (Nat.eq_of_beq_eq_true h) hne
    · rcases h.2 with (h | h) | h
      · rw [List.elem_eq_true_of_mem hl] at h; cases h
      · exact .inl h
      · exact .inr h

section
variable {c : PC} {E : Nat → Prop}
theorem down_of (hg : PGood c) : ∀ i, i < c.ops.size → ∀ e ∈ edgesAt c.ops i, e < i := by
  intro i hi e he
  have h := List.all_eq_true.1 hg.anc i (List.mem_range.2 hi)
  simp only [Bool.and_eq_true, List.all_eq_true] at h
  simpa [Nat.blt_eq] using h.1 e he
/-- what holds of the edges holds of the ancestors -/
theorem anc_edges (hg : PGood c) (hD : ∀ i, i < c.ops.size → E i → ∀ e ∈ edgesAt c.ops i, E e) {i : Nat} (hi : i < c.ops.size) (he : ∀ e ∈ edgesAt c.ops i, E e) {j : Nat} (hj : anc c.tbl i j = true) : E j := by
  obtain ⟨e, h1, h2, h3⟩ := anc_spec hg.anc hi hj
  rcases h3 with rfl | h3
  · exact he _ h1
  · exact anc_closed hg.anc hD e (by omega) (he e h1) j h3
end

structure Pend (P : Program) (ρ : Env) (st : St) (w0 w : World) (a a' : Act) (o : Oper) (κ : World × World × Value) : Prop where
  run : (execOp a'.eval o).run P κ.1 = .ok (.value κ.2.2) κ.2.1
  lo : w0.heap.size ≤ κ.1.heap.size
  hi : κ.2.1.heap.size ≤ w.heap.size
  same : ∀ k, κ.1.heap.size ≤ k → k < κ.2.1.heap.size → w.heap[k]? = κ.2.1.heap[k]? ∧ ¬ ImgA ρ st k
  tmp : ∀ d, o.dst = some d → d < a.tmps.size → a.tmps[d]? = some κ.2.2

structure Inv (P : Program) (c : PC) (ρ0 : Env) (st0 : St) (w0 : World) (s : PSt) (D : Nat → Prop) (κ : Nat → World × World × Value) (ρ : Env) (st : St) (w : World) (fr : Fr) (a a' : Act) : Prop where
  stp : Step ρ0 st0 w0 ρ st w
  fro : FrOk ρ st.nx fr a'
  agr : Agree (stale c s D) a a'
  ecl : ∀ i, i < c.ops.size → bit s.E i = true → ∀ e ∈ edgesAt c.ops i, bit s.E e = true
  dcl : ∀ i, i < c.ops.size → D i → ∀ e ∈ edgesAt c.ops i, D e
  dlt : ∀ i, D i → i < c.ops.size
  cx : ∀ i, bit c.X i = true → (bit s.E i = true ↔ D i)
  cg : ∀ i, bit c.G i = true → bit s.E i = true → D i
  cn : ∀ i, bit c.N i = true → D i → bit s.E i = true
  pend : ∀ i o, D i → bit s.E i = false → c.ops[i]? = some o → o.guard = none ∧ (∀ e ∈ edgesAt c.ops i, bit s.E e = true) ∧ Pend P ρ st w0 w a a' o (κ i)
  disj : ∀ i j, D i → bit s.E i = false → D j → bit s.E j = false → i ≠ j → (κ i).2.1.heap.size ≤ (κ j).1.heap.size ∨ (κ j).2.1.heap.size ≤ (κ i).1.heap.size
  md : ∀ i, bit s.M i = true → D i

def OutN (P : Program) (c : PC) (ρ : Env) (st : St) (a' : Act) (o : Oper) (u : Value) : Prop :=
  (Region.wanted o (yielded c.ops a'.tmps) = false ∧ u = undef) ∨
  (Region.wanted o (yielded c.ops a'.tmps) = true ∧ ∀ w1, Real ρ (bare st) w1 → ∃ w2, Step ρ (bare st) w1 ρ (bare st) w2 ∧ (execOp a'.eval o).run P w1 = .ok (.value u) w2)
def OutG (P : Program) (a' : Act) (o : Oper) : Prop := ∀ w1, ∃ u w2, Grow w1 w2 ∧ (execOp a'.eval o).run P w1 = .ok (.value u) w2
/-- what is promised of the operations that may come in this phase -/
structure Prom (P : Program) (c : PC) (s : PSt) (ρ : Env) (st : St) (a' : Act) : Prop where
  n : ∀ i, bit s.K i = true → bit c.N i = true ∧ bit s.E i = true ∧ ∃ o u, c.ops[i]? = some o ∧ (∀ d, o.dst = some d → d < a'.tmps.size → a'.tmps[d]? = some u) ∧ OutN P c ρ st a' o u
  g : ∀ i, bit s.Q i = true → bit c.G i = true ∧ (∀ e ∈ edgesAt c.ops i, bit s.E e = true) ∧ ∃ o, c.ops[i]? = some o ∧ o.guard = none ∧ OutG P a' o

section
variable {P : Program} {c : PC} {ρ0 : Env} {st0 : St} {w0 : World} {s : PSt} {D : Nat → Prop} {κ : Nat → World × World × Value} {ρ : Env} {st : St} {w : World} {fr : Fr} {a a' : Act}

theorem notStale (hg : PGood c) (hI : Inv P c ρ0 st0 w0 s D κ ρ st w fr a a') {i : Nat} (hi : i < c.ops.size) (hE : ∀ e ∈ edgesAt c.ops i, bit s.E e = true) (hD : ∀ e ∈ edgesAt c.ops i, D e)
    (hX : bit c.X i = true → bit s.E i = false) : ∀ d ∈ looks c.ops i, ¬ stale c s D d := by
  rintro d hd ⟨j, hj, hs⟩
  have hjl := dstAt_lt hj
  have hnx : ∀ k, bit c.X k = true → ((bit s.E k = true ∧ ¬ D k) ∨ (D k ∧ bit s.E k = false)) → False := by
    intro k hk h
    have := hI.cx k hk
    rcases h with ⟨h1, h2⟩ | ⟨h1, h2⟩
    · exact h2 (this.1 h1)
    · rw [this.2 h1] at h2; cases h2
  by_cases e : j = i
  · subst e
    rcases hg.own j d hi hj with h | h
    · exact hnx j h hs
    · exact h hd
  · rcases hg.look i j d hi hjl (Ne.symm e) hj hd with h | ⟨h, h' | h'⟩
    · have h1 : bit s.E j = true := anc_edges (E := fun k => bit s.E k = true) hg hI.ecl hi hE h
      have h2 : D j := anc_edges (E := D) hg hI.dcl hi hD h
      rcases hs with ⟨_, h3⟩ | ⟨_, h3⟩
      · exact h3 h2
      · rw [h1] at h3; cases h3
    · have hEi := hX h'
      rcases hs with ⟨h1, _⟩ | ⟨h1, _⟩
      · have : bit s.E i = true := anc_closed (D := fun k => bit s.E k = true) hg.anc hI.ecl j hjl h1 i h
        rw [this] at hEi; cases hEi
      · have : D i := anc_closed (D := D) hg.anc hI.dcl j hjl h1 i h
        rw [(hI.cx i h').2 this] at hEi; cases hEi
    · exact hnx j h' hs

theorem noLook (hg : PGood c) (hcl : ∀ i, i < c.ops.size → bit s.E i = true → ∀ e ∈ edgesAt c.ops i, bit s.E e = true) {i j d : Nat} (hi : i < c.ops.size) (hE : ∀ e ∈ edgesAt c.ops i, bit s.E e = true)
    (hj : bit s.E j = false) (hXi : bit c.X i = false) (hXj : bit c.X j = false) (hd : dstAt c.ops j = some d) : d ∉ looks c.ops i := by
  intro hm
  by_cases e : i = j
  · subst e
    rcases hg.own i d hi hd with h | h
    · rw [hXi] at h; cases h
    · exact h hm
  · rcases hg.look i j d hi (dstAt_lt hd) e hd hm with h | ⟨_, h | h⟩
    · have : bit s.E j = true := anc_edges (E := fun k => bit s.E k = true) hg hcl hi hE h
      rw [this] at hj; cases hj
    · rw [hXi] at h; cases h
    · rw [hXj] at h; cases h

theorem exec_put_of {o : Oper} {u : Value} {i : Nat} (ho : c.ops[i]? = some o) (hs : noSel o) {dst : Option Nat} (h : ∀ d, dst = some d → d ∉ looks c.ops i) :
    execOp (a'.put dst u).eval o = execOp a'.eval o ∧ Region.wanted o (yielded c.ops (a'.put dst u).tmps) = Region.wanted o (yielded c.ops a'.tmps) := by
  rw [looks_eq ho] at h
  exact ⟨execOp_put o hs a' dst u h, wanted_put o a' dst u h⟩

theorem Inv.learn (hI : Inv P c ρ0 st0 w0 s D κ ρ st w fr a a') {st1 : St} (hs : Step ρ st w ρ st1 w) (hh : st1.h = st.h) (hn : st1.nx = st.nx) : Inv P c ρ0 st0 w0 s D κ ρ st1 w fr a a' :=
  { hI with
    stp := hI.stp.trans hs
    fro := by rw [hn]; exact hI.fro
    pend := fun i o h1 h2 h3 => by
      obtain ⟨g1, g2, g3⟩ := hI.pend i o h1 h2 h3
      refine ⟨g1, g2, ⟨g3.run, g3.lo, g3.hi, fun k h1 h2 => ⟨(g3.same k h1 h2).1, ?_⟩, g3.tmp⟩⟩
      rintro ⟨id, ob, h, e⟩
      exact (g3.same k h1 h2).2 ⟨id, ob, by rw [← hh]; exact h, e⟩ }
theorem Prom.learn (hP : Prom P c s ρ st a') {st1 : St} (hb : bare st1 = bare st) : Prom P c s ρ st1 a' :=
  ⟨fun i hi => by
    obtain ⟨h1, h2, o, u, h3, h4, h5⟩ := hP.n i hi
    refine ⟨h1, h2, o, u, h3, h4, ?_⟩
    unfold OutN at *; rw [hb]; exact h5, hP.g⟩

theorem bit_put_iff {x i j : Nat} : bit (put x i) j = true ↔ bit x j = true ∨ i = j := by rw [bit_put]; simp
theorem bit_put_false {x i j : Nat} : bit (put x i) j = false ↔ bit x j = false ∧ i ≠ j := by rw [bit_put]; simp

/-- a plain operation is looked at -/
theorem inv_n (hg : PGood c) (hI : Inv P c ρ0 st0 w0 s D κ ρ st w fr a a') (hP : Prom P c s ρ st a') {i : Nat} {o : Oper} (ho : c.ops[i]? = some o) (hN : bit c.N i = true) (hE : bit s.E i = false)
    (hed : ∀ e ∈ edgesAt c.ops i, bit s.E e = true) {v : V} (hv : v.wf st.nx) {fr1 : Fr} (hfr : setDst fr o.dst v = some fr1) (hout : OutN P c ρ st a' o (v.den ρ)) :
    Inv P c ρ0 st0 w0 { s with E := put s.E i, K := put s.K i } D κ ρ st w fr1 a (a'.put o.dst (v.den ρ)) ∧ Prom P c { s with E := put s.E i, K := put s.K i } ρ st (a'.put o.dst (v.den ρ)) := by
  have hi := lt_ops ho
  have hX : bit c.X i = false := by rcases hg.cls i hi with h | h | h <;> simp_all
  have hGi : bit c.G i = false := by rcases hg.cls i hi with h | h | h <;> simp_all
  have hnD : ¬ D i := fun h => by rw [hI.cn i hN h] at hE; cases hE
  have hdi := dstAt_eq ho
  have keep : ∀ j oj, c.ops[j]? = some oj → (∀ e ∈ edgesAt c.ops j, bit s.E e = true) → bit c.X j = false →
      execOp (a'.put o.dst (v.den ρ)).eval oj = execOp a'.eval oj ∧ Region.wanted oj (yielded c.ops (a'.put o.dst (v.den ρ)).tmps) = Region.wanted oj (yielded c.ops a'.tmps) := by
    intro j oj hj he hXj
    exact exec_put_of hj (hg.kind j oj hj) fun d hd => noLook hg hI.ecl (lt_ops hj) he hE hXj hX (by rw [hdi]; exact hd)
  refine ⟨⟨hI.stp, setDst_ok hI.fro hv hfr, ⟨by rw [put_ds]; exact hI.agr.ds, by rw [put_size]; exact hI.agr.sz, fun k hk => ?_⟩, fun j hj hej e he => ?_, hI.dcl, hI.dlt, fun j hj => ?_, fun j hj hej => ?_, fun j hj hd => ?_, fun j oj h1 h2 h3 => ?_, fun j l h1 h2 h3 h4 => ?_, hI.md⟩, ⟨fun j hj => ?_, fun j hj => ?_⟩⟩
  · have hk' : o.dst ≠ some k := fun e => hk ⟨i, by rw [hdi]; exact e, .inl ⟨bit_put_iff.2 (.inr rfl), hnD⟩⟩
    rw [put_get_ne hk']
    refine hI.agr.at_ k fun ⟨j, hj, hs⟩ => hk ⟨j, hj, ?_⟩
    have hne : i ≠ j := by
      rintro rfl
      rcases hs with ⟨h, _⟩ | ⟨h, _⟩
      · rw [hE] at h; cases h
      · exact hnD h
    rcases hs with ⟨h1, h2⟩ | ⟨h1, h2⟩
    · exact .inl ⟨bit_put_iff.2 (.inl h1), h2⟩
    · exact .inr ⟨h1, bit_put_false.2 ⟨h2, hne⟩⟩
  · refine bit_put_iff.2 (.inl ?_)
    rcases bit_put_iff.1 hej with h | rfl
    · exact hI.ecl j hj h e he
    · exact hed e he
  · refine (?_ : _ ↔ bit s.E j = true).trans (hI.cx j hj)
    refine bit_put_iff.trans ⟨fun h => h.elim id fun e => ?_, .inl⟩
    subst e; rw [hX] at hj; cases hj
  · rcases bit_put_iff.1 hej with h | rfl
    · exact hI.cg j hj h
    · rw [hGi] at hj; cases hj
  · exact bit_put_iff.2 (.inl (hI.cn j hj hd))
  · obtain ⟨h2, h2'⟩ := bit_put_false.1 h2
    obtain ⟨g1, g2, g3⟩ := hI.pend j oj h1 h2 h3
    have hXj : bit c.X j = false := by
      cases h : bit c.X j
      · rfl
      · rw [(hI.cx j h).2 h1] at h2; cases h2
    exact ⟨g1, fun e he => bit_put_iff.2 (.inl (g2 e he)), ⟨by rw [(keep j oj h3 g2 hXj).1]; exact g3.run, g3.lo, g3.hi, g3.same, g3.tmp⟩⟩
  · exact hI.disj j l h1 (bit_put_false.1 h2).1 h3 (bit_put_false.1 h4).1
  · by_cases e : i = j
    · subst e
      refine ⟨hN, bit_put_iff.2 (.inr rfl), o, v.den ρ, ho, fun d hd hsz => ?_, ?_⟩
      · rw [put_size] at hsz; rw [hd]; exact put_get hsz
      · unfold OutN at *
        obtain ⟨e1, e2⟩ := keep i o ho hed hX
        rw [e1, e2]; exact hout
    · obtain ⟨h1, h2, oj, u, h3, h4, h5⟩ := hP.n j ((bit_put_iff.1 hj).resolve_right e)
      refine ⟨h1, bit_put_iff.2 (.inl h2), oj, u, h3, fun d hd hsz => ?_, ?_⟩
      · rw [put_size] at hsz
        rw [put_get_ne]
        · exact h4 d hd hsz
        · intro e'
          exact hg.dst i j d hi (lt_ops h3) e (by rw [dstAt_eq h3]; exact hd) (by rw [hdi]; exact e')
      · have hXj : bit c.X j = false := by rcases hg.cls j (lt_ops h3) with h | h | h <;> simp_all
        unfold OutN at *
        obtain ⟨e1, e2⟩ := keep j oj h3 (hI.ecl j (lt_ops h3) h2) hXj
        rw [e1, e2]; exact h5
  · obtain ⟨h1, h2, oj, h3, h4, h5⟩ := hP.g j hj
    refine ⟨h1, fun e he => bit_put_iff.2 (.inl (h2 e he)), oj, h3, h4, ?_⟩
    have hXj : bit c.X j = false := by rcases hg.cls j (lt_ops h3) with h | h | h <;> simp_all
    unfold OutG at *
    rw [(keep j oj h3 h2 hXj).1]; exact h5

/-- a plain operation is looked at again -/
theorem inv_r (hI : Inv P c ρ0 st0 w0 s D κ ρ st w fr a a') (hP : Prom P c s ρ st a') {i : Nat} {o : Oper} (ho : c.ops[i]? = some o) (hN : bit c.N i = true) (hE : bit s.E i = true)
    {u : Value} (hu : ∀ d, o.dst = some d → a'.tmps[d]? = some u) (hout : OutN P c ρ st a' o u) :
    Inv P c ρ0 st0 w0 { s with K := put s.K i } D κ ρ st w fr a a' ∧ Prom P c { s with K := put s.K i } ρ st a' := by
  refine ⟨⟨hI.stp, hI.fro, hI.agr, hI.ecl, hI.dcl, hI.dlt, hI.cx, hI.cg, hI.cn, hI.pend, hI.disj, hI.md⟩, ⟨fun j hj => ?_, hP.g⟩⟩
  by_cases e : i = j
  · subst e
    exact ⟨hN, hE, o, u, ho, fun d hd _ => hu d hd, hout⟩
  · exact hP.n j ((bit_put_iff.1 hj).resolve_right e)

theorem inv_g (hI : Inv P c ρ0 st0 w0 s D κ ρ st w fr a a') (hP : Prom P c s ρ st a') {i : Nat} {o : Oper} (ho : c.ops[i]? = some o) (hG : bit c.G i = true)
    (hed : ∀ e ∈ edgesAt c.ops i, bit s.E e = true) (hgu : o.guard = none) (hout : OutG P a' o) :
    Inv P c ρ0 st0 w0 { s with Q := put s.Q i } D κ ρ st w fr a a' ∧ Prom P c { s with Q := put s.Q i } ρ st a' := by
  refine ⟨⟨hI.stp, hI.fro, hI.agr, hI.ecl, hI.dcl, hI.dlt, hI.cx, hI.cg, hI.cn, hI.pend, hI.disj, hI.md⟩, ⟨hP.n, fun j hj => ?_⟩⟩
  by_cases e : i = j
  · subst e
    exact ⟨hG, hed, o, ho, hgu, hout⟩
  · exact hP.g j ((bit_put_iff.1 hj).resolve_right e)
end
end Go.Sx
