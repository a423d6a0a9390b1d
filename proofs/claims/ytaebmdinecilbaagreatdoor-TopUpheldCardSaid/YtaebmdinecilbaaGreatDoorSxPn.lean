/- A part of a symbolic evaluator over the model and of the proof that it is right: 'SxPn'. It holds for every program; no condition. -/
import Derived.Test.YtaebmdinecilbaaGreatDoorSxPm
namespace Go.Sx
def Out' (l : List Oper) (a a1 : Act) : Prop := ∀ k, (∀ o ∈ l, o.dst ≠ some k) → a1.tmps[k]? = a.tmps[k]?
section
variable {P : Program} {C : Ctx} {c : PC} {ρ0 : Env} {st0 : St} {w0 : World} {s : PSt} {D : Nat → Prop} {κ : Nat → World × World × Value} {ρ : Env} {st : St} {w : World} {fr : Fr} {a a' : Act}

/-- a fresh one that came is bound -/
theorem inv_b (hC : C.Ok P) (hg : PGood c) (hI : Inv P c ρ0 st0 w0 s D κ ρ st w fr a a') {i : Nat} {o : Oper} (ho : c.ops[i]? = some o) (hG : bit c.G i = true) (hE : bit s.E i = false) (hD : D i)
    (hed : ∀ e ∈ edgesAt c.ops i, bit s.E e = true) {v : V} {st' : St} (hop : evOp C fr.t (iso st) o = .val v st') {fr1 : Fr} (hfr : setDst fr o.dst v = some fr1) :
    ∃ ρ1, Env.agree st.nx ρ ρ1 ∧ st.nx ≤ (bindNew st st').nx ∧ Inv P c ρ0 st0 w0 { s with E := put s.E i } D κ ρ1 (bindNew st st') w fr1 a (a'.put o.dst (v.den ρ1)) := by
  have hi := lt_ops ho
  have hX : bit c.X i = false := by rcases hg.cls i hi with h | h | h <;> simp_all
  have hNi : bit c.N i = false := by rcases hg.cls i hi with h | h | h <;> simp_all
  have hdi := dstAt_eq ho
  have hR := hI.stp.real
  obtain ⟨_, _, hp⟩ := hI.pend i o hD hE ho
  have hok := evOp_ok hC (hR.iso (κ i).1) (t := fr.t) (ev := a'.eval) hI.fro.ev o
  rw [hop] at hok
  obtain ⟨ρ1, w2, hs, hv, hr⟩ := hok
  have hrun := hp.run
  rw [hr] at hrun
  simp only [Result.ok.injEq, Next.value.injEq] at hrun
  obtain ⟨hu, rfl⟩ := hrun
  have hag : Env.agree st.nx ρ ρ1 := hs.agree
  have hnx : st.nx ≤ st'.nx := hs.nx
  have hold : ∀ id ob, st.h.get id = some ob → ρ1.b id = ρ.b id ∧ id < st.nx := fun id ob h => by
    have := (hR.obj id ob h).1
    exact ⟨(hag id this).2.1.symm, this⟩
  -- the new block
  have hnew : ∀ ob, st'.h.get st.nx = some ob → (κ i).1.heap.size ≤ ρ1.b st.nx ∧ ρ1.b st.nx < (κ i).2.1.heap.size := by
    intro ob h
    refine ⟨?_, hs.real.lt h⟩
    rcases hs.imgA _ ⟨_, _, h, rfl⟩ with ⟨id, ob', h', _⟩ | h'
    · simp [iso, Tr.get] at h'
    · exact h'
  have hget : ∀ id ob, (bindNew st st').h.get id = some ob → (id = st.nx ∧ st'.h.get st.nx = some ob) ∨ (id ≠ st.nx ∧ st.h.get id = some ob) := by
    intro id ob h
    unfold bindNew at h
    dsimp only at h
    split at h
    · rename_i ob' hob'
      rcases Tr.get_set h with ⟨rfl, rfl⟩ | ⟨h1, h2⟩
      · exact .inl ⟨rfl, hob'⟩
      · exact .inr ⟨h1, h2⟩
    · exact .inr ⟨Nat.ne_of_lt (hR.obj id ob h).1, h⟩
  have hx := hR.extend hag hnx
  have hreal : Real ρ1 (bindNew st st') w := by
    refine ⟨fun id ob h => ?_, fun id id' ob ob' h h' hne hrw => ?_, hx.fc, hx.fw⟩
    · rcases hget id ob h with ⟨rfl, hn⟩ | ⟨_, hn⟩
      · obtain ⟨h1, h2, obj, h3, h4⟩ := hs.real.obj _ ob hn
        obtain ⟨n1, n2⟩ := hnew ob hn
        exact ⟨h1, h2, obj, by rw [(hp.same _ n1 n2).1]; exact h3, h4⟩
      · exact hx.obj id ob hn
    · rcases hget id ob h with ⟨rfl, hn⟩ | ⟨n1, hn⟩ <;> rcases hget id' ob' h' with ⟨rfl, hn'⟩ | ⟨n2, hn'⟩
      · exact absurd rfl hne
      · obtain ⟨m1, m2⟩ := hnew ob hn
        intro e
        exact (hp.same _ m1 m2).2 ⟨id', ob', hn', by rw [e, (hold id' ob' hn').1]⟩
      · obtain ⟨m1, m2⟩ := hnew ob' hn'
        intro e
        exact (hp.same _ m1 m2).2 ⟨id, ob, hn, by rw [← e, (hold id ob hn).1]⟩
      · exact hx.inj id id' ob ob' hn hn' hne hrw
  have keep : ∀ j oj, c.ops[j]? = some oj → (∀ e ∈ edgesAt c.ops j, bit s.E e = true) → bit c.X j = false →
      execOp (a'.put o.dst (v.den ρ1)).eval oj = execOp a'.eval oj := by
    intro j oj hj he hXj
    exact (exec_put_of hj (hg.kind j oj hj) fun d hd => noLook hg hI.ecl (lt_ops hj) he hE hXj hX (by rw [hdi]; exact hd)).1
  refine ⟨ρ1, hag, hnx, ⟨⟨hI.stp.agree.trans (hag.mono hI.stp.nx), Nat.le_trans hI.stp.nx hnx, hreal, hI.stp.os, hI.stp.tape, hI.stp.output, hI.stp.size, hI.stp.keep, ?_, ?_⟩, setDst_ok (hI.fro.agree hag hnx) hv hfr, ⟨by rw [put_ds]; exact hI.agr.ds, by rw [put_size]; exact hI.agr.sz, fun k hk => ?_⟩, fun j hj hej e he => ?_, hI.dcl, hI.dlt, fun j hj => ?_, fun j hj hej => ?_, fun j hj hd => ?_, fun j oj h1 h2 h3 => ?_, fun j l h1 h2 h3 h4 => ?_, hI.md⟩⟩
  · rintro k ⟨id, ob, h, hrw, rfl⟩
    rcases hget id ob h with ⟨rfl, hn⟩ | ⟨_, hn⟩
    · exact .inr (Nat.le_trans hp.lo (hnew ob hn).1)
    · exact hI.stp.img _ ⟨id, ob, hn, hrw, (hold id ob hn).1.symm⟩
  · rintro k ⟨id, ob, h, rfl⟩
    rcases hget id ob h with ⟨rfl, hn⟩ | ⟨_, hn⟩
    · exact .inr (Nat.le_trans hp.lo (hnew ob hn).1)
    · exact hI.stp.imgA _ ⟨id, ob, hn, (hold id ob hn).1.symm⟩
  · by_cases e : o.dst = some k
    · rcases Nat.lt_or_ge k a.tmps.size with hlt | hge
      · rw [hp.tmp k e hlt, e, put_get (by rw [← hI.agr.sz]; exact hlt), hu]
      · rw [Array.getElem?_eq_none hge, Array.getElem?_eq_none (by rw [put_size, ← hI.agr.sz]; exact hge)]
    · rw [put_get_ne e]
      refine hI.agr.at_ k fun ⟨j, hj, hs⟩ => hk ⟨j, hj, ?_⟩
      have hne : i ≠ j := fun e' => e (by subst e'; rw [← hdi]; exact hj)
      exact hs.imp (fun h => ⟨bit_put_iff.2 (.inl h.1), h.2⟩) (fun h => ⟨h.1, bit_put_false.2 ⟨h.2, hne⟩⟩)
  · refine bit_put_iff.2 (.inl ?_)
    rcases bit_put_iff.1 hej with h | rfl
    · exact hI.ecl j hj h e he
    · exact hed e he
  · refine (?_ : _ ↔ bit s.E j = true).trans (hI.cx j hj)
    refine bit_put_iff.trans ⟨fun h => h.elim id fun e => ?_, .inl⟩
    subst e; rw [hX] at hj; cases hj
  · rcases bit_put_iff.1 hej with h | rfl
    · exact hI.cg j hj h
    · exact hD
  · exact bit_put_iff.2 (.inl (hI.cn j hj hd))
  · obtain ⟨h2, h2'⟩ := bit_put_false.1 h2
    obtain ⟨g1, g2, g3⟩ := hI.pend j oj h1 h2 h3
    have hXj : bit c.X j = false := by
      cases h : bit c.X j
      · rfl
      · rw [(hI.cx j h).2 h1] at h2; cases h2
    refine ⟨g1, fun e he => bit_put_iff.2 (.inl (g2 e he)), ⟨by rw [keep j oj h3 g2 hXj]; exact g3.run, g3.lo, g3.hi, fun x hx1 hx2 => ⟨(g3.same x hx1 hx2).1, ?_⟩, g3.tmp⟩⟩
    rintro ⟨id, ob, h, e⟩
    rcases hget id ob h with ⟨rfl, hn⟩ | ⟨_, hn⟩
    · obtain ⟨m1, m2⟩ := hnew ob hn
      rcases hI.disj i j hD hE h1 h2 h2' with h | h <;> omega
    · exact (g3.same x hx1 hx2).2 ⟨id, ob, hn, by rw [← e, (hold id ob hn).1]⟩
  · exact hI.disj j l h1 (bit_put_false.1 h2).1 h3 (bit_put_false.1 h4).1

/-- an operation of the chain is done -/
theorem inv_x (hg : PGood c) (hI : Inv P c ρ0 st0 w0 s D κ ρ st w fr a a') {x : Nat} {o : Oper} (ho : c.ops[x]? = some o) (hX : bit c.X x = true) (hnD : ¬ D x)
    (hed : ∀ e ∈ edgesAt c.ops x, bit s.E e = true) (hdd : ∀ e ∈ edgesAt c.ops x, D e) {ρ1 : Env} {st1 : St} {w1 : World} {fr1 : Fr} {a1 a1' : Act} (hs : Step ρ st w ρ1 st1 w1) (hF : FrOk ρ1 st1.nx fr1 a1')
    (hA : Agree (stale c s D) a1 a1') (h1 : Out' [o] a a1) (h2 : Out' [o] a' a1') :
    Inv P c ρ0 st0 w0 { E := put s.E x, M := put (s.M ||| c.tbl.getD x 0) x, K := 0, Q := 0, go := none } (fun j => j = x ∨ D j) κ ρ1 st1 w1 fr1 a1 a1' := by
  have hx := lt_ops ho
  have hE : bit s.E x = false := by
    cases h : bit s.E x
    · rfl
    · exact absurd ((hI.cx x hX).1 h) hnD
  have hcl := hg.cls x hx
  have hdx := dstAt_eq ho
  have out1 : ∀ k, o.dst ≠ some k → a1.tmps[k]? = a.tmps[k]? := fun k hk => h1 k (by intro y hy; simp at hy; subst hy; exact hk)
  have out2 : ∀ k, o.dst ≠ some k → a1'.tmps[k]? = a'.tmps[k]? := fun k hk => h2 k (by intro y hy; simp at hy; subst hy; exact hk)
  refine ⟨hI.stp.trans hs, hF, ⟨hA.ds, hA.sz, fun k hk => hA.at_ k fun ⟨j, hj, hst⟩ => hk ⟨j, hj, ?_⟩⟩, fun j hj hej e he => ?_, fun j hj hd e he => ?_, fun j hj => hj.elim (fun e => e ▸ hx) (hI.dlt j), fun j hj => ?_, fun j hj hej => ?_, fun j hj hd => ?_, fun j oj g1 g2 g3 => ?_, fun j l g1 g2 g3 g4 g5 => ?_, fun j hj => ?_⟩
  · have hne : x ≠ j := by
      rintro rfl
      rcases hst with ⟨h, _⟩ | ⟨h, _⟩
      · rw [hE] at h; cases h
      · exact hnD h
    exact hst.imp (fun h => ⟨bit_put_iff.2 (.inl h.1), fun h' => h'.elim (Ne.symm hne) h.2⟩) (fun h => ⟨.inr h.1, bit_put_false.2 ⟨h.2, hne⟩⟩)
  · refine bit_put_iff.2 (.inl ?_)
    rcases bit_put_iff.1 hej with h | rfl
    · exact hI.ecl j hj h e he
    · exact hed e he
  · rcases hd with rfl | hd
    · exact .inr (hdd e he)
    · exact .inr (hI.dcl j hj hd e he)
  · exact bit_put_iff.trans ⟨fun h => h.elim (fun h => .inr ((hI.cx j hj).1 h)) (fun h => .inl h.symm), fun h => h.elim (fun h => .inr h.symm) (fun h => .inl ((hI.cx j hj).2 h))⟩
  · rcases bit_put_iff.1 hej with h | rfl
    · exact .inr (hI.cg j hj h)
    · exact .inl rfl
  · rcases hd with rfl | hd
    · exact bit_put_iff.2 (.inr rfl)
    · exact bit_put_iff.2 (.inl (hI.cn j hj hd))
  · obtain ⟨g2, g2'⟩ := bit_put_false.1 g2
    have g1 := g1.resolve_left (Ne.symm g2')
    obtain ⟨q1, q2, q3⟩ := hI.pend j oj g1 g2 g3
    have hjl := lt_ops g3
    have hex : execOp a1'.eval oj = execOp a'.eval oj := by
      refine (same_exec (all := c.ops) (hg.kind j oj g3) fun d hd => out2 d fun e => ?_).1
      rcases hg.look j x d hjl hx (Ne.symm g2') (by rw [hdx]; exact e) (by rw [looks_eq g3]; exact hd) with h | ⟨h, _⟩
      · exact hnD (anc_closed (D := D) hg.anc hI.dcl j hjl g1 x h)
      · have : bit s.E j = true := anc_edges (E := fun k => bit s.E k = true) hg hI.ecl hx hed h
        rw [this] at g2; cases g2
    refine ⟨q1, fun e he => bit_put_iff.2 (.inl (q2 e he)), ⟨by rw [hex]; exact q3.run, q3.lo, Nat.le_trans q3.hi hs.size, fun k hk1 hk2 => ?_, fun d hd hsz => ?_⟩⟩
    · obtain ⟨e1, e2⟩ := q3.same k hk1 hk2
      have hkw := Nat.lt_of_lt_of_le hk2 q3.hi
      refine ⟨?_, fun h => ?_⟩
      · rw [hs.keep k hkw fun ⟨id, ob, h1, _, h2⟩ => e2 ⟨id, ob, h1, h2⟩]; exact e1
      · rcases hs.imgA k h with h | h
        · exact e2 h
        · omega
    · have hne : o.dst ≠ some d := fun e => hg.dst x j d hx hjl g2' (by rw [dstAt_eq g3]; exact hd) (by rw [hdx]; exact e)
      rw [out1 d hne]
      refine q3.tmp d hd ?_
      have : a1.tmps[d]? = some a1.tmps[d] := Array.getElem?_eq_getElem hsz
      rw [out1 d hne] at this
      exact lt_of_some this
  · obtain ⟨g2, g2'⟩ := bit_put_false.1 g2
    obtain ⟨g4, g4'⟩ := bit_put_false.1 g4
    exact hI.disj j l (g1.resolve_left (Ne.symm g2')) g2 (g3.resolve_left (Ne.symm g4')) g4 g5
  · rcases bit_put_iff.1 hj with h | rfl
    · have h : (bit s.M j || bit (c.tbl.getD x 0) j) = true := by unfold bit at *; rw [← Nat.testBit_or]; exact h
      simp only [Bool.or_eq_true] at h
      rcases h with h | h
      · exact .inr (hI.md j h)
      · exact .inr (anc_edges (E := D) hg hI.dcl hx hdd h)
    · exact .inl rfl
theorem prom0 {s : PSt} (hK : s.K = 0) (hQ : s.Q = 0) : Prom P c s ρ st a' :=
  ⟨fun i hi => by rw [hK] at hi; simp [bit] at hi, fun i hi => by rw [hQ] at hi; simp [bit] at hi⟩

theorem inv_0 (hR : Real ρ st w) (hF : FrOk ρ st.nx fr a) : Inv P c ρ st w pst0 (fun _ => False) κ ρ st w fr a a := by
  have h0 : ∀ i, bit pst0.E i = false := fun i => by simp [bit, pst0]
  refine ⟨Step.refl hR, hF, .refl _ _, fun i _ h => ?_, fun i _ h => h.elim, fun i h => h.elim, fun i _ => ?_, fun i _ h => ?_, fun i _ h => h.elim, fun i o h => h.elim, fun i j h => h.elim, fun i h => ?_⟩
  · rw [h0] at h; cases h
  · rw [h0]; simp
  · rw [h0] at h; cases h
  · simp [bit, pst0] at h

theorem drop_get {ops : Array Oper} {k : Nat} {v : V} : ∀ {l : List PA} {t : Tr V}, (dropDst ops l t).get k = some v → t.get k = some v
  | [], _, h => h
  | .n i :: l, t, h => by
    have := drop_get (l := l) h
    split at this
    · exact (Tr.get_del this).2
    · exact this
  | .b i :: l, t, h => by
    have := drop_get (l := l) h
    split at this
    · exact (Tr.get_del this).2
    · exact this
  | .r _ :: l, _, h | .g _ :: l, _, h | .go _ :: l, _, h | .fin :: l, _, h | .x _ :: l, _, h => drop_get (l := l) h
theorem FrOk.drop {ops : Array Oper} {l : List PA} {n : Nat} (h : FrOk ρ n fr a) : FrOk ρ n { fr with t := dropDst ops l fr.t } a :=
  ⟨fun k v hk => h.t k v (drop_get hk), h.sz, h.ds, h.dw⟩
end
end Go.Sx
