/- A part of a symbolic evaluator over the model and of the proof that it is right: 'SxR'. It holds for every program; no condition. -/
import Derived.Test.YtaebmdinecilbaaGreatDoorSxQ
namespace Go.Sx

section
variable {P : Program} {ρ : Env} {st : St} {w : World}

/-! ## Maps -/
def strBeq : List UInt8 → List UInt8 → Bool := strEq
mutual
def V.beq : V → V → Bool
  | .bool a, .bool b => a.beq b
  | .int k a, .int l b => kBeq k l && a.beq b
  | .str a, .str b => strEq a b
  | .ptr a b, .ptr c d => Nat.beq a c && Nat.beq b d
  | .nilPtr, .nilPtr => true
  | .nilSlice, .nilSlice => true
  | .nilMap, .nilMap => true
  | .nilFunc, .nilFunc => true
  | .nilIface, .nilIface => true
  | .agg a, .agg b => V.beqL a b
  | .iface t v, .iface u x => Nat.beq t u && V.beq v x
  | .opq a, .opq b => Nat.beq a b
  | .slice a b c d, .slice a' b' c' d' => Nat.beq a a' && Nat.beq b b' && Nat.beq c c' && d.beq d'
  | .map a, .map b => Nat.beq a b
  | .func (.fn (.func f)) a b, .func (.fn (.func g)) c d => Nat.beq f g && V.beqL a c && V.beqL b d
  | .tuple a, .tuple b => V.beqL a b
  | _, _ => false
def V.beqL : List V → List V → Bool
  | [], [] => true
  | a :: l, b :: m => V.beq a b && V.beqL l m
  | _, _ => false
end
mutual
theorem V.beq_eq : ∀ {a b : V}, V.beq a b = true → a = b
  | .bool a, b, h => by cases b <;> simp [V.beq] at h; rw [Tm.beq_eq h]
  | .int k a, b, h => by cases b <;> simp [V.beq] at h; rw [kBeq_eq h.1, Tm.beq_eq h.2]
  | .str a, b, h => by cases b <;> simp [V.beq] at h; rw [strEq_iff.1 h]
  | .ptr a b, c, h => by cases c <;> simp [V.beq] at h; rw [h.1, h.2]
  | .nilPtr, b, h => by cases b <;> simp [V.beq] at h; rfl
  | .nilSlice, b, h => by cases b <;> simp [V.beq] at h; rfl
  | .nilMap, b, h => by cases b <;> simp [V.beq] at h; rfl
  | .nilFunc, b, h => by cases b <;> simp [V.beq] at h; rfl
  | .nilIface, b, h => by cases b <;> simp [V.beq] at h; rfl
  | .agg a, b, h => by cases b <;> simp [V.beq] at h; rw [V.beqL_eq h]
  | .iface t v, b, h => by cases b <;> simp [V.beq] at h; rw [h.1, V.beq_eq h.2]
  | .opq a, b, h => by cases b <;> simp [V.beq] at h; rw [h]
  | .slice _ _ _ _, b, h => by cases b <;> simp [V.beq] at h; rw [h.1.1.1, h.1.1.2, h.1.2, Tm.beq_eq h.2]
  | .map _, b, h => by cases b <;> simp [V.beq] at h; rw [h]
  | .func (.fn (.func f)) a b, .func (.fn (.func g)) c d, h => by simp [V.beq] at h; rw [h.1.1, V.beqL_eq h.1.2, V.beqL_eq h.2]
  | .tuple _, b, h => by cases b <;> simp [V.beq] at h; rw [V.beqL_eq h]
  | .unk, b, h => by cases b <;> simp [V.beq] at h
theorem V.beqL_eq : ∀ {a b : List V}, V.beqL a b = true → a = b
  | [], [], _ => rfl
  | [], _ :: _, h => by simp [V.beqL] at h
  | _ :: _, [], h => by simp [V.beqL] at h
  | a :: l, b :: m, h => by simp [V.beqL] at h; rw [V.beq_eq h.1, V.beqL_eq h.2]
end

/-- are two keys the same? -/
def keyDec (C : Ctx) (fc : Facts) (kt : Nat) (k e : V) : Option Bool :=
  match eqT C fc 12 kt k e with
  | some r => match tv fc r with
    | some true => bif V.beq k e then some true else none
    | some false => some false
    | none => none
  | none => none
def findK (C : Ctx) (fc : Facts) (kt : Nat) (k : V) : List (V × V × Nat) → Nat → Option (Option (Nat × V))
  | [], _ => some none
  | e :: l, i => match keyDec C fc kt k e.1 with
    | some true => some (some (i, e.2.1))
    | some false => findK C fc kt k l (i + 1)
    | none => none

def simpleKey : TypeDesc → Bool
  | .int _ | .string | .bool => true
  | _ => false
def notIface : TypeDesc → Bool
  | .interface _ | .array _ _ | .struct _ => false
  | _ => true
def keyPlain (C : Ctx) : Nat → Nat → V → Bool
  | 0, _, _ => false
  | f + 1, t, v => match C.ty.get t with
    | none => false
    | some i => match i.und, v with
      | .struct _, .agg l => i.flds.all fun y => y.blank || (match partL l y y.off with | some x => keyPlain C f y.ty x | none => false)
      | d, _ => notIface d

theorem keyDec_spec {C : Ctx} (hC : C.Ok P) (hR : Real ρ st w) {kt : Nat} {k e : V} {b : Bool} (h : keyDec C st.fc kt k e = some b) (hk : k.wf st.nx) (he : e.wf st.nx) :
    (Op.equal kt (k.den ρ) (e.den ρ)).run P w = .ok b w ∧ (b = true → k = e) ∧ ∀ i, C.ty.get kt = some i → simpleKey i.und = true → Instr.sameNow i.und (k.den ρ) (e.den ρ) = some b := by
  unfold keyDec at h
  split at h
  · rename_i r hr
    obtain ⟨g1, g2⟩ := eqT_spec hC hR.fc w 12 10000 kt k e r (by omega) hr hk he
    have hb : (r.den ρ != 0) = b ∧ (b = true → k = e) := by
      split at h
      · rename_i ht
        cases hv : V.beq k e <;> simp [hv] at h
        subst h
        exact ⟨tv_sound hR.fc ht, fun _ => V.beq_eq hv⟩
      · rename_i ht
        simp at h; subst h
        exact ⟨tv_sound hR.fc ht, by simp⟩
      · simp at h
    refine ⟨by rw [← hb.1]; exact g2, hb.2, ?_⟩
    intro i hi hs
    simp only [eqT, hi] at hr
    rw [← hb.1]
    split at hr <;> first | (rename_i hu; simp only [hu, simpleKey, Bool.false_eq_true] at hs; done) | skip
    · rename_i a c hu
      simp at hr; subst hr
      simp only [hu, V.den, Instr.sameNow, mkEq_den hR.fc, nb_den, b2i_ne]
      congr 1
      cases (a.den ρ != 0) <;> cases (c.den ρ != 0) <;> simp [b2i]
    · rename_i k0 kk a l c hu
      cases hkk : kBeq kk l <;> simp [hkk] at hr
      subst hr
      have := kBeq_eq hkk; subst this
      simp only [hu, V.den, Instr.sameNow, mkEq_den hR.fc, b2i_ne, if_true]
      rfl
    · rename_i a c hu
      simp at hr; subst hr
      simp only [hu, V.den, Instr.sameNow, Tm.den, b2i_ne]
      congr 1
      rw [Bool.eq_iff_iff, strEq_iff]
      show ((a.toArray == c.toArray) = true) ↔ _
      simp
    · simp at hr
  · simp at h

def mkE (ρ : Env) (e : V × V × Nat) : MapEntry := { key := e.1.den ρ, val := e.2.1.den ρ, born := e.2.2 }

theorem findK_spec {C : Ctx} (hC : C.Ok P) (hR : Real ρ st w) {kt : Nat} {k : V} (hk : k.wf st.nx) {i : TyI} (hi : C.ty.get kt = some i) {es : List (V × V × Nat)} (hes : ∀ e ∈ es, e.1.wf st.nx ∧ e.2.1.wf st.nx)
    {r : Option (Nat × V)} (h : findK C st.fc kt k es 0 = some r) :
    (Instr.findKey kt (k.den ρ) (es.map (mkE ρ))).run P w = .ok (r.map fun x => (x.1, x.2.den ρ)) w := by
  have hT := hC.get hi
  rw [Instr.findKey, Sem.run_bind, hT.run_und, Result.andThen_ok]
  have ask : ∀ (es : List (V × V × Nat)) (n : Nat) (r : Option (Nat × V)), (∀ e ∈ es, e.1.wf st.nx ∧ e.2.1.wf st.nx) → findK C st.fc kt k es n = some r →
      (Instr.findAsking kt (k.den ρ) (es.map (mkE ρ)) n).run P w = .ok (r.map fun x => (x.1, x.2.den ρ)) w := by
    intro es
    induction es with
    | nil => intro n r _ h; simp [findK] at h; subst h; rfl
    | cons e es ih =>
      intro n r hes h
      simp only [findK] at h
      split at h
      · rename_i hd
        simp at h; subst h
        obtain ⟨h1, _, _⟩ := keyDec_spec hC hR hd hk (hes e (List.mem_cons_self ..)).1
        simp only [List.map_cons, Instr.findAsking, mkE, Sem.run_bind, h1, Result.andThen_ok, if_true, Sem.run_pure]
        rfl
      · rename_i hd
        obtain ⟨h1, _, _⟩ := keyDec_spec hC hR hd hk (hes e (List.mem_cons_self ..)).1
        have := ih (n + 1) r (fun x hx => hes x (List.mem_cons_of_mem _ hx)) h
        simp only [List.map_cons, Instr.findAsking, mkE, Sem.run_bind, h1, Result.andThen_ok, Bool.false_eq_true, if_false]
        exact this
      · simp at h
  cases hs : simpleKey i.und
  · cases es with
    | nil => simp [findK] at h; subst h; simp [Instr.findNow]
    | cons e es =>
      have : Instr.findNow i.und (k.den ρ) ((e :: es).map (mkE ρ)) 0 = none := by
        simp only [List.map_cons, Instr.findNow]
        have : Instr.sameNow i.und (k.den ρ) (mkE ρ e).key = none := by
          cases hd : i.und <;> simp [hd, simpleKey] at hs <;> rfl
        rw [this]
      rw [this]
      exact ask _ 0 r hes h
  · have now : ∀ (es : List (V × V × Nat)) (n : Nat) (r : Option (Nat × V)), (∀ e ∈ es, e.1.wf st.nx ∧ e.2.1.wf st.nx) → findK C st.fc kt k es n = some r →
        Instr.findNow i.und (k.den ρ) (es.map (mkE ρ)) n = some (r.map fun x => (x.1, x.2.den ρ)) := by
      intro es
      induction es with
      | nil => intro n r _ h; simp [findK] at h; subst h; rfl
      | cons e es ih =>
        intro n r hes h
        simp only [findK] at h
        split at h
        · rename_i hd
          simp at h; subst h
          obtain ⟨_, _, h3⟩ := keyDec_spec hC hR hd hk (hes e (List.mem_cons_self ..)).1
          have h3 := h3 i hi hs
          simp only [List.map_cons, Instr.findNow, mkE, h3]
          rfl
        · rename_i hd
          obtain ⟨_, _, h3⟩ := keyDec_spec hC hR hd hk (hes e (List.mem_cons_self ..)).1
          have h3 := h3 i hi hs
          simp only [List.map_cons, Instr.findNow, mkE, h3]
          exact ih (n + 1) r (fun x hx => hes x (List.mem_cons_of_mem _ hx)) h
        · simp at h
    rw [now es 0 r hes h]; rfl

theorem findK_wf {C : Ctx} {fc : Facts} {kt : Nat} {k : V} {n : Nat} : ∀ {es : List (V × V × Nat)} {i : Nat} {r : Nat × V}, (∀ e ∈ es, e.1.wf n ∧ e.2.1.wf n) → findK C fc kt k es i = some (some r) → r.2.wf n
  | [], i, r, _, h => by simp [findK] at h
  | e :: es, i, r, hes, h => by
    simp only [findK] at h
    split at h
    · simp at h; subst h; exact (hes e (List.mem_cons_self ..)).2
    · exact findK_wf (fun x hx => hes x (List.mem_cons_of_mem _ hx)) h
    · simp at h

theorem checkKey_run {C : Ctx} (hC : C.Ok P) (empty : Bool) : ∀ (f d t : Nat) (v : V), f ≤ d → keyPlain C f t v = true → ∀ n, v.wf n → (Instr.checkKey empty d t (v.den ρ)).run P w = .ok () w
  | 0, _, _, _, _, h, _, _ => by simp [keyPlain] at h
  | f + 1, 0, _, _, hd, _, _, _ => by omega
  | f + 1, d + 1, t, v, hd, h, n, hv => by
    simp only [keyPlain] at h
    split at h
    · simp at h
    rename_i i hi
    have hT := hC.get hi
    rw [Instr.checkKey, Sem.run_bind, hT.run_und, Result.andThen_ok]
    split at h
    · rename_i fs l hu
      obtain ⟨fs⟩ := fs
      have hm : mkFIs P fs = some i.flds := by have := hT.flds; rw [hu] at this; exact this
      simp only [hu, V.den, Sem.run_bind]
      rw [show ({ toList := fs } : Array Field) = fs.toArray from rfl, List.forIn_toArray]
      have : ∀ (fs : List Field) (ys : List FI), mkFIs P fs = some ys → (ys.all fun y => y.blank || (match partL l y y.off with | some x => keyPlain C f y.ty x | none => false)) = true →
          (forIn fs PUnit.unit fun (f : Field) (_ : PUnit) =>
              if f.name ≠ "_" then do
                let __do_lift ← part f.type (V.denL ρ l).toArray f.offset
                Instr.checkKey empty d f.type __do_lift
                pure (ForInStep.yield PUnit.unit)
              else pure (ForInStep.yield PUnit.unit) : Sem PUnit).run P w = .ok PUnit.unit w := by
        intro fs
        induction fs with
        | nil => intro ys _ _; rfl
        | cons fl fs ih =>
          intro ys h1 h2
          simp only [mkFIs] at h1
          split at h1
          · rename_i y r hy hr
            simp at h1; subst h1
            simp only [List.all_cons, Bool.and_eq_true] at h2
            obtain ⟨e1, e2, e3, _⟩ := mkFI_spec hy
            rw [List.forIn_cons, Sem.run_bind]
            cases hb : y.blank
            · have hname : fl.name ≠ "_" := by rw [hb] at e3; simpa using e3.symm
              rw [if_pos hname]
              have h3 := h2.1
              rw [hb, Bool.false_or] at h3
              split at h3
              · rename_i x hx
                obtain ⟨a1, a2⟩ := partL_spec (P := P) (ρ := ρ) (w := w) (n := n) hx hv hy
                rw [e2] at a2
                rw [e1] at h3
                have := checkKey_run hC empty f d fl.type x (by omega) h3 n a1
                simp only [Sem.run_bind, a2, Result.andThen_ok, this, Sem.run_pure]
                exact ih r hr h2.2
              · simp at h3
            · have hname : ¬ fl.name ≠ "_" := by rw [hb] at e3; simpa using e3.symm
              rw [if_neg hname]
              simp only [Sem.run_pure, Result.andThen_ok]
              exact ih r hr h2.2
          · simp at h1
      rw [this fs i.flds hm h]
      rfl
    · rename_i hno
      cases hd : i.und <;> simp [hd, notIface] at h <;> rfl
end
end Go.Sx
