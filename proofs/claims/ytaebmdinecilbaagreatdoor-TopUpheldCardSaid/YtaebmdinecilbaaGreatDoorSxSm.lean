/- A part of a symbolic evaluator over the model and of the proof that it is right: 'SxSm'. It holds for every program; no condition. -/
import Derived.Test.YtaebmdinecilbaaGreatDoorSxTb
namespace Go.Sx

/-! ## Terms for names -/
def Tm.wfb (m : Nat) : Tm → Bool
  | .lit _ => true
  | .var k => Nat.blt k m
  | .add a b | .sub a b | .mul a b | .quo a b | .rem a b | .eq a b | .lt a b | .and a b | .or a b => a.wfb m && b.wfb m
  | .wrap _ a | .not a => a.wfb m
  | .ite c a b => c.wfb m && a.wfb m && b.wfb m
theorem Tm.wfb_wf {m : Nat} : ∀ {t : Tm}, t.wfb m = true → t.wf m
  | .lit _, _ => trivial
  | .var k, h => by simpa [Tm.wfb, Nat.blt_eq] using h
  | .add a b, h | .sub a b, h | .mul a b, h | .quo a b, h | .rem a b, h | .eq a b, h | .lt a b, h | .and a b, h | .or a b, h => by
    simp only [Tm.wfb, Bool.and_eq_true] at h
    exact ⟨Tm.wfb_wf h.1, Tm.wfb_wf h.2⟩
  | .wrap _ a, h | .not a, h => Tm.wfb_wf (t := a) h
  | .ite c a b, h => by
    simp only [Tm.wfb, Bool.and_eq_true] at h
    exact ⟨Tm.wfb_wf h.1.1, Tm.wfb_wf h.1.2, Tm.wfb_wf h.2⟩

def Tm.put (fc : Facts) (e : Nat → Tm) : Tm → Tm
  | .lit z => .lit z
  | .var n => e n
  | .add a b => mkAdd (a.put fc e) (b.put fc e)
  | .sub a b => mkSub (a.put fc e) (b.put fc e)
  | .mul a b => mkMul (a.put fc e) (b.put fc e)
  | .quo a b => .quo (a.put fc e) (b.put fc e)
  | .rem a b => .rem (a.put fc e) (b.put fc e)
  | .wrap k a => mkWrap fc k (a.put fc e)
  | .eq a b => mkEq fc (a.put fc e) (b.put fc e)
  | .lt a b => mkLt fc (a.put fc e) (b.put fc e)
  | .not a => mkNot (a.put fc e)
  | .and a b => .and (a.put fc e) (b.put fc e)
  | .or a b => .or (a.put fc e) (b.put fc e)
  | .ite c a b => mkIte fc (c.put fc e) (a.put fc e) (b.put fc e)
theorem Tm.put_den {ρ ρ' : Env} {fc : Facts} {e : Nat → Tm} (h : FactsOk ρ fc) (he : ∀ n, (e n).den ρ = ρ'.i n) : ∀ t : Tm, (t.put fc e).den ρ = t.den ρ'
  | .lit _ => rfl
  | .var n => he n
  | .add a b => by simp only [Tm.put, mkAdd_den, Tm.den, put_den h he a, put_den h he b]
  | .sub a b => by simp only [Tm.put, mkSub_den, Tm.den, put_den h he a, put_den h he b]
  | .mul a b => by simp only [Tm.put, mkMul_den, Tm.den, put_den h he a, put_den h he b]
  | .quo a b => by simp only [Tm.put, Tm.den, put_den h he a, put_den h he b]
  | .rem a b => by simp only [Tm.put, Tm.den, put_den h he a, put_den h he b]
  | .wrap k a => by simp only [Tm.put, mkWrap_den h, Tm.den, put_den h he a]
  | .eq a b => by simp only [Tm.put, mkEq_den h, Tm.den, put_den h he a, put_den h he b]
  | .lt a b => by simp only [Tm.put, mkLt_den h, Tm.den, put_den h he a, put_den h he b]
  | .not a => by simp only [Tm.put, mkNot_den, Tm.den, put_den h he a]
  | .and a b => by simp only [Tm.put, Tm.den, put_den h he a, put_den h he b]
  | .or a b => by simp only [Tm.put, Tm.den, put_den h he a, put_den h he b]
  | .ite c a b => by simp only [Tm.put, mkIte_den h, Tm.den, put_den h he a, put_den h he b, put_den h he c]
theorem Tm.put_wf {m n : Nat} {fc : Facts} {e : Nat → Tm} (he : ∀ k, k < m → (e k).wf n) : ∀ {t : Tm}, t.wf m → (t.put fc e).wf n
  | .lit _, _ => trivial
  | .var k, hk => he k hk
  | .add _ _, h => mkAdd_wf (put_wf he h.1) (put_wf he h.2)
  | .sub _ _, h => mkSub_wf (put_wf he h.1) (put_wf he h.2)
  | .mul _ _, h => mkMul_wf (put_wf he h.1) (put_wf he h.2)
  | .quo _ _, h | .rem _ _, h | .and _ _, h | .or _ _, h => ⟨put_wf he h.1, put_wf he h.2⟩
  | .wrap _ a, h => mkWrap_wf (put_wf (t := a) he h)
  | .eq _ _, h => mkEq_wf (put_wf he h.1) (put_wf he h.2)
  | .lt _ _, h => mkLt_wf (put_wf he h.1) (put_wf he h.2)
  | .not a, h => mkNot_wf (put_wf (t := a) he h)
  | .ite _ _ _, h => mkIte_wf (put_wf he h.1) (put_wf he h.2.1) (put_wf he h.2.2)

/-! ## A function that only reckons -/
def treeInt (m : Nat) : Res (Out × St) → Option (IntKind × Tm)
  | .ok (.call (.ret (.int k t)), _) => bif t.wfb m then some (k, t) else none
  | .fork c l r => match treeInt m l, treeInt m r with
    | some (k, a), some (k2, b) => bif kBeq k k2 && c.wfb m then some (k, .ite c a b) else none
    | _, _ => none
  | _ => none
theorem treeInt_wf {m : Nat} : ∀ {t : Res (Out × St)} {k : IntKind} {big : Tm}, treeInt m t = some (k, big) → big.wf m
  | .ok (.call (.ret (.int k t)), s), k', big, h => by
    simp only [treeInt] at h
    cases hw : t.wfb m <;> simp [hw] at h
    obtain ⟨rfl, rfl⟩ := h
    exact Tm.wfb_wf hw
  | .fork c l r, k, big, h => by
    simp only [treeInt] at h
    split at h
    · rename_i k a k2 b e1 e2
      cases hw : (kBeq k k2 && c.wfb m) <;> simp only [hw, cond_true, cond_false] at h
      · simp at h
      · simp only [Option.some.injEq, Prod.mk.injEq] at h
        obtain ⟨rfl, rfl⟩ := h
        rw [Bool.and_eq_true] at hw
        exact ⟨Tm.wfb_wf hw.2, treeInt_wf e1, treeInt_wf e2⟩
    · simp at h
  | .ok (.call (.ret (.bool _)), _), _, _, h | .ok (.call (.ret (.str _)), _), _, _, h | .ok (.call (.ret (.ptr _ _)), _), _, _, h | .ok (.call (.ret .nilPtr), _), _, _, h
  | .ok (.call (.ret (.slice ..)), _), _, _, h | .ok (.call (.ret .nilSlice), _), _, _, h | .ok (.call (.ret (.map _)), _), _, _, h | .ok (.call (.ret .nilMap), _), _, _, h
  | .ok (.call (.ret (.func ..)), _), _, _, h | .ok (.call (.ret .nilFunc), _), _, _, h | .ok (.call (.ret (.iface ..)), _), _, _, h | .ok (.call (.ret .nilIface), _), _, _, h
  | .ok (.call (.ret (.agg _)), _), _, _, h | .ok (.call (.ret (.tuple _)), _), _, _, h | .ok (.call (.ret (.opq _)), _), _, _, h | .ok (.call (.ret .unk), _), _, _, h
  | .ok (.call (.panic _), _), _, _, h | .ok (.frame _ _, _), _, _, h | .ok (.ops _, _), _, _, h | .ok (.un, _), _, _, h | .bad _, _, _, h => by simp [treeInt] at h
theorem treeInt_ok {m : Nat} {Q : Env → Out × St → Prop} : ∀ {t : Res (Out × St)} {ρ : Env} {k : IntKind} {big : Tm}, Holds m ρ t Q → treeInt m t = some (k, big) →
    ∃ ρ' r t', Env.agree m ρ ρ' ∧ Q ρ' r ∧ r.1 = .call (.ret (.int k t')) ∧ t'.den ρ' = big.den ρ
  | .ok (.call (.ret (.int k t)), s), ρ, k', big, ⟨ρ', ha, hq⟩, h => by
    simp only [treeInt] at h
    cases hw : t.wfb m <;> simp [hw] at h
    obtain ⟨rfl, rfl⟩ := h
    exact ⟨ρ', _, _, ha, hq, rfl, (Tm.den_agree ha (Tm.wfb_wf hw)).symm⟩
  | .fork c l r, ρ, k', big, ⟨ρ1, ha, hl, hr⟩, h => by
    simp only [treeInt] at h
    split at h
    · rename_i k a k2 b e1 e2
      cases hw : (kBeq k k2 && c.wfb m) <;> simp only [hw, cond_true, cond_false] at h
      · simp at h
      · simp only [Option.some.injEq, Prod.mk.injEq] at h
        obtain ⟨rfl, rfl⟩ := h
        rw [Bool.and_eq_true] at hw
        have hc := Tm.den_agree ha (Tm.wfb_wf hw.2)
        have hk := kBeq_eq hw.1
        subst hk
        by_cases h0 : c.den ρ1 = 0
        · obtain ⟨ρ', x, t', g1, g2, g3, g4⟩ := treeInt_ok (hr h0) e2
          refine ⟨ρ', x, t', ha.trans g1, g2, g3, ?_⟩
          rw [g4]
          rw [← hc] at h0
          simp only [Tm.den, h0, if_true]
          exact (Tm.den_agree ha (treeInt_wf e2)).symm
        · obtain ⟨ρ', x, t', g1, g2, g3, g4⟩ := treeInt_ok (hl h0) e1
          refine ⟨ρ', x, t', ha.trans g1, g2, g3, ?_⟩
          rw [g4]
          rw [← hc] at h0
          simp only [Tm.den, if_neg h0]
          exact (Tm.den_agree ha (treeInt_wf e1)).symm
    · simp at h
  | .ok (.call (.ret (.bool _)), _), _, _, _, _, h | .ok (.call (.ret (.str _)), _), _, _, _, _, h | .ok (.call (.ret (.ptr _ _)), _), _, _, _, _, h | .ok (.call (.ret .nilPtr), _), _, _, _, _, h
  | .ok (.call (.ret (.slice ..)), _), _, _, _, _, h | .ok (.call (.ret .nilSlice), _), _, _, _, _, h | .ok (.call (.ret (.map _)), _), _, _, _, _, h | .ok (.call (.ret .nilMap), _), _, _, _, _, h
  | .ok (.call (.ret (.func ..)), _), _, _, _, _, h | .ok (.call (.ret .nilFunc), _), _, _, _, _, h | .ok (.call (.ret (.iface ..)), _), _, _, _, _, h | .ok (.call (.ret .nilIface), _), _, _, _, _, h
  | .ok (.call (.ret (.agg _)), _), _, _, _, _, h | .ok (.call (.ret (.tuple _)), _), _, _, _, _, h | .ok (.call (.ret (.opq _)), _), _, _, _, _, h | .ok (.call (.ret .unk), _), _, _, _, _, h
  | .ok (.call (.panic _), _), _, _, _, _, h | .ok (.frame _ _, _), _, _, _, _, h | .ok (.ops _, _), _, _, _, _, h | .ok (.un, _), _, _, _, _, h | .bad _, _, _, _, _, h => by simp [treeInt] at h

def within (fc : Facts) (t : Tm) (lo hi : Int) : Bool := match rng fc t with | some (p, q) => Z.le lo p && Z.le q hi | none => false
theorem within_ok {ρ : Env} {fc : Facts} (h : FactsOk ρ fc) {t : Tm} {lo hi : Int} (hw : within fc t lo hi = true) : lo ≤ t.den ρ ∧ t.den ρ ≤ hi := by
  unfold within at hw
  split at hw
  · rename_i p q e
    rw [Bool.and_eq_true] at hw
    have h1 := (Z.le_iff _ _).1 hw.1
    have h2 := (Z.le_iff _ _).1 hw.2
    have := rng_sound h t
    rw [e] at this
    simp only [InR] at this
    omega
  · simp at hw
/-- what a parameter may be: a whole number of a kind, or a truth value -/
abbrev PSig := List (Option IntKind × Int × Int)
def argTms (fc : Facts) : PSig → List V → Option (List Tm)
  | [], [] => some []
  | (some k, lo, hi) :: ps, .int k' t :: vs => bif kBeq k k' && within fc t lo hi then (match argTms fc ps vs with | some l => some (t :: l) | none => none) else none
  | (none, lo, hi) :: ps, .bool t :: vs => bif within fc t lo hi then (match argTms fc ps vs with | some l => some (t :: l) | none => none) else none
  | _, _ => none
def formV : Nat → PSig → List V
  | _, [] => []
  | n, (some k, _, _) :: ps => .int k (.var n) :: formV (n + 1) ps
  | n, (none, _, _) :: ps => .bool (.var n) :: formV (n + 1) ps
def formF : Nat → PSig → Facts
  | _, [] => []
  | n, (_, lo, hi) :: ps => (.var n, lo, hi) :: formF (n + 1) ps
def nthT : List Tm → Nat → Tm
  | [], _ => .lit 0
  | t :: _, 0 => t
  | _ :: l, n + 1 => nthT l n

theorem argTms_ok {ρ : Env} {fc : Facts} (h : FactsOk ρ fc) {N m : Nat} : ∀ {ps : PSig} {vs : List V} {l : List Tm} {n : Nat} {ρ' : Env}, argTms fc ps vs = some l → V.wfL N vs → (∀ i, i < l.length → ρ'.i (n + i) = (nthT l i).den ρ) → n + ps.length ≤ m →
    V.denL ρ' (formV n ps) = V.denL ρ vs ∧ V.wfL m (formV n ps) ∧ FactsOk ρ' (formF n ps) ∧ FactsWf m (formF n ps) ∧ l.length = ps.length ∧ ∀ i, i < l.length → (nthT l i).wf N
  | [], [], l, n, ρ', hl, _, _, _ => by
    simp [argTms] at hl; subst hl
    exact ⟨rfl, trivial, fun f hf => by simp [formF] at hf, fun f hf => by simp [formF] at hf, rfl, fun i hi => by simp at hi⟩
  | (q, lo, hi) :: ps, v :: vs, l, n, ρ', hl, hw, he, hm => by
    have key : ∃ t r, l = t :: r ∧ argTms fc ps vs = some r ∧ within fc t lo hi = true ∧ ((∃ k, q = some k ∧ v = .int k t) ∨ (q = none ∧ v = .bool t)) := by
      cases q with
      | some k =>
        cases v <;> simp only [argTms] at hl <;> try (simp at hl; done)
        rename_i k' t
        cases hb : (kBeq k k' && within fc t lo hi) <;> simp only [hb, cond_true, cond_false] at hl
        · simp at hl
        · rw [Bool.and_eq_true] at hb
          split at hl
          · rename_i r hr
            simp at hl
            have := kBeq_eq hb.1; subst this
            exact ⟨t, r, hl.symm, hr, hb.2, .inl ⟨k, rfl, rfl⟩⟩
          · simp at hl
      | none =>
        cases v <;> simp only [argTms] at hl <;> try (simp at hl; done)
        rename_i t
        cases hb : within fc t lo hi <;> simp only [hb, cond_true, cond_false] at hl
        · simp at hl
        · split at hl
          · rename_i r hr
            simp at hl
            exact ⟨t, r, hl.symm, hr, hb, .inr ⟨rfl, rfl⟩⟩
          · simp at hl
    obtain ⟨t, r, rfl, hr, hwi, hv⟩ := key
    have h0 : ρ'.i n = t.den ρ := by have := he 0 (by simp); simpa [nthT] using this
    have he' : ∀ i, i < r.length → ρ'.i (n + 1 + i) = (nthT r i).den ρ := by
      intro i hi
      have := he (i + 1) (by simp; omega)
      simp only [nthT] at this
      rw [← this]; congr 1; omega
    simp only [List.length_cons] at hm
    obtain ⟨g1, g2, g3, g4, g5, g6⟩ := argTms_ok h (m := m) hr hw.2 he' (by omega)
    have hb := within_ok h hwi
    have tail : FactsOk ρ' ((.var n, lo, hi) :: formF (n + 1) ps) ∧ FactsWf m ((.var n, lo, hi) :: formF (n + 1) ps) ∧ (t :: r).length = ((q, lo, hi) :: ps).length := by
      refine ⟨?_, ?_, by simp [g5]⟩
      · intro f hf
        rcases List.mem_cons.1 hf with rfl | hf
        · simp only [Tm.den, h0]; exact hb
        · exact g3 f hf
      · intro f hf
        rcases List.mem_cons.1 hf with rfl | hf
        · show n < m; omega
        · exact g4 f hf
    have twf : t.wf N := by
      rcases hv with ⟨k, rfl, rfl⟩ | ⟨rfl, rfl⟩ <;> exact hw.1
    have wfs : ∀ i, i < (t :: r).length → (nthT (t :: r) i).wf N := by
      intro i hi
      cases i with
      | zero => exact twf
      | succ i => exact g6 i (by simpa using hi)
    rcases hv with ⟨k, rfl, rfl⟩ | ⟨rfl, rfl⟩
    · exact ⟨by simp only [formV, V.denL, V.den, Tm.den, h0, g1], ⟨by show n < m; omega, g2⟩, tail.1, tail.2.1, tail.2.2, wfs⟩
    · exact ⟨by simp only [formV, V.denL, V.den, Tm.den, h0, g1], ⟨by show n < m; omega, g2⟩, tail.1, tail.2.1, tail.2.2, wfs⟩
  | [], _ :: _, _, _, _, hl, _, _, _ => by simp [argTms] at hl
  | (q, _, _) :: _, [], _, _, _, hl, _, _, _ => by cases q <;> simp [argTms] at hl

def pureSt (ps : PSig) : St := { h := .e, nx := ps.length, fc := formF 0 ps }
def pureSum (ps : PSig) (k : IntKind) (big : Tm) : Summ := fun st args => match argTms st.fc ps args with
  | some l => some (.int k (big.put st.fc (nthT l)), st)
  | none => none
theorem nthT_wf {N : Nat} : ∀ {l : List Tm}, (∀ i, i < l.length → (nthT l i).wf N) → ∀ i, (nthT l i).wf N
  | [], _, _ => trivial
  | _ :: _, h, 0 => h 0 (by simp)
  | _ :: l, h, i + 1 => nthT_wf (l := l) (fun j hj => h (j + 1) (by simp; omega)) i

theorem pureSum_ok {C : Ctx} {P : Program} (hC : C.Ok P) (hM : P.follows .mixedOrders = true) (hPl : PlansOk C) (hSm : SumsOk P C) {f g : Nat} {ps : PSig} {k : IntKind} {big : Tm}
    (h : treeInt ps.length (ev C f (.call .normal g (formV 0 ps)) (pureSt ps)) = some (k, big)) : SumOk P g (pureSum ps k big) := by
  intro ρ st w args v st1 cs hR hw hs
  unfold pureSum at hs
  split at hs
  · rename_i l hl
    simp only [Option.some.injEq, Prod.mk.injEq] at hs
    obtain ⟨rfl, rfl⟩ := hs
    let ρi : Env := { ρ with i := fun j => (nthT l j).den ρ }
    obtain ⟨g1, g2, g3, g4, g5, g6⟩ := argTms_ok hR.fc (m := ps.length) (n := 0) (ρ' := ρi) hl hw (fun i _ => by simp [ρi]) (by omega)
    have hRi : Real ρi (pureSt ps) w := ⟨fun id o h => by simp [pureSt, Tr.get] at h, fun id id' o o' h => by simp [pureSt, Tr.get] at h, g3, g4⟩
    have hH := (sound hC hM hPl hSm f).call .normal g (formV 0 ps) (pureSt ps) ρi w cs hRi g2 (.inl rfl)
    obtain ⟨ρ', r, t', ha, ⟨w', hst, fr, hfn, hsteps, hq⟩, hr, ht⟩ := treeInt_ok hH h
    have hgrow : Grow w w' := ⟨hst.os, hst.tape, hst.output, hst.size, fun k hk => hst.keep k hk (fun ⟨_, _, h, _⟩ => by simp [pureSt, Tr.get] at h)⟩
    have hden : (big.put st.fc (nthT l)).den ρ = t'.den ρ' := by rw [ht]; exact Tm.put_den hR.fc (fun n => rfl) big
    rw [g1] at hsteps
    refine ⟨ρ, w', fr, hgrow.step hR, Tm.put_wf (fun j _ => nthT_wf g6 j) (treeInt_wf h), hfn, hsteps, ?_⟩
    rcases hq with ⟨v, e, _, hl⟩ | ⟨v, e, _, hl⟩
    · rw [hr] at e
      simp only [Out.call.injEq, COut.ret.injEq] at e
      subst e
      simp only [V.den, hden] at hl ⊢
      exact hl
    · rw [hr] at e
      simp at e
  · simp at hs
end Go.Sx
