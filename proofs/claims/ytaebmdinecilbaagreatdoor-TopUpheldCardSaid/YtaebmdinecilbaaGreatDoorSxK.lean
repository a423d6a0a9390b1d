/- A part of a symbolic evaluator over the model and of the proof that it is right: 'SxK'. It holds for every program; no condition. -/
import Derived.Test.YtaebmdinecilbaaGreatDoorSxJ
import Derived.Laws.Entries
namespace Go.Sx

section
variable {P : Program} {ρ : Env} {st : St} {w : World}

/-! ## Equality -/
/-- a truth value as 0 or 1 -/
def nb (t : Tm) : Tm :=
  match t with
  | .lit z => .lit (b2i (!(Z.beq z 0)))
  | t => bif isB t then t else .not (.not t)
theorem nb_den (ρ : Env) (t : Tm) : (nb t).den ρ = b2i (t.den ρ != 0) := by
  have key : (bif isB t then t else Tm.not (.not t)).den ρ = b2i (t.den ρ != 0) := by
    cases h : isB t
    · simp only [cond_false, Tm.den]
      by_cases e : t.den ρ = 0
      · simp [e, b2i]
      · have : (t.den ρ != 0) = true := by simpa using e
        rw [this]; simp [e, b2i]
    · rcases isB_den (ρ := ρ) h with e | e <;> simp [e, b2i]
  cases t <;> first | exact key | skip
  rename_i z
  simp only [nb, Tm.den]
  cases h : Z.beq z 0
  · have : (z != 0) = true := by simpa using (Z.beq_false _ _).1 h
    rw [this]; rfl
  · simp [(Z.beq_iff _ _).1 h]
theorem nb_wf {n : Nat} {t : Tm} (h : t.wf n) : (nb t).wf n := by
  unfold nb; split
  · trivial
  · exact bif_wf h h

def strEq : List UInt8 → List UInt8 → Bool
  | [], [] => true
  | a :: l, b :: m => Nat.beq a.toNat b.toNat && strEq l m
  | _, _ => false
theorem strEq_iff : ∀ {l m : List UInt8}, strEq l m = true ↔ l = m
  | [], [] => by simp [strEq]
  | [], _ :: _ => by simp [strEq]
  | _ :: _, [] => by simp [strEq]
  | a :: l, b :: m => by
    simp only [strEq, Bool.and_eq_true, strEq_iff (l := l), List.cons.injEq]
    constructor
    · rintro ⟨h, h'⟩; exact ⟨UInt8.toNat.inj (Nat.eq_of_beq_eq_true h), h'⟩
    · rintro ⟨h, h'⟩; subst h; exact ⟨Nat.beq_refl _, h'⟩

def foldEq (f : FI → V → V → Option Tm) : List FI → List V → List V → Option Tm
  | [], _, _ => some (.lit 1)
  | y :: r, l, m => bif y.blank then foldEq f r l m else
    match partL l y y.off, partL m y y.off with
    | some a, some b => match f y a b with
      | some t => match t with
        | .lit z => bif Z.beq z 0 then some (.lit 0) else foldEq f r l m
        | t => match foldEq f r l m with
          | some s => some (mkAnd t s)
          | none => none
      | none => none
    | _, _ => none
def arrFI (y : FI) (n : Nat) : Nat → List FI
  | 0 => []
  | k + 1 => { y with off := Nat.mul n y.size, blank := false } :: arrFI y (n + 1) k

def eqT (C : Ctx) (fc : Facts) : Nat → Nat → V → V → Option Tm
  | 0, _, _, _ => none
  | f + 1, t, x, y => match C.ty.get t with
    | none => none
    | some i => match i.und, x, y with
      | .bool, .bool a, .bool b => some (mkEq fc (nb a) (nb b))
      | .int _, .int k a, .int l b => bif kBeq k l then some (mkEq fc a b) else none
      | .string, .str a, .str b => some (.lit (b2i (strEq a b)))
      | .pointer _, .nilPtr, .nilPtr => some (.lit 1)
      | .pointer _, .ptr _ _, .nilPtr => some (.lit 0)
      | .pointer _, .nilPtr, .ptr _ _ => some (.lit 0)
      | .interface _, .nilIface, .nilIface => some (.lit 1)
      | .interface _, .nilIface, .iface _ _ => some (.lit 0)
      | .interface _, .iface _ _, .nilIface => some (.lit 0)
      | .slice _, .nilSlice, .nilSlice => some (.lit 1)
      | .slice _, .slice _ _ _ _, .nilSlice => some (.lit 0)
      | .slice _, .nilSlice, .slice _ _ _ _ => some (.lit 0)
      | .map _ _, .nilMap, .nilMap => some (.lit 1)
      | .map _ _, .map _, .nilMap => some (.lit 0)
      | .map _ _, .nilMap, .map _ => some (.lit 0)
      | .func _ _ _, .nilFunc, .nilFunc => some (.lit 1)
      | .func _ _ _, .func _ _ _, .nilFunc => some (.lit 0)
      | .func _ _ _, .nilFunc, .func _ _ _ => some (.lit 0)
      | .struct _, .agg l, .agg m => bif i.free then foldEq (fun y => eqT C fc f y.ty) i.flds l m else none
      | .array n _, .agg l, .agg m => match i.el with
        | some y => foldEq (fun y => eqT C fc f y.ty) (arrFI y 0 n) l m
        | none => none
      | _, _, _ => none

/-- the walk over parts of the model -/
theorem forIn_eq {d : Nat} {l m : List V} {n : Nat} (hl : V.wfL n l) (hm : V.wfL n m) {f : FI → V → V → Option Tm} {w : World}
    (hf : ∀ y a b t, f y a b = some t → a.wf n → b.wf n → t.wf n ∧ (Op.equalIn d y.ty (a.den ρ) (b.den ρ)).run P w = .ok (t.den ρ != 0) w)
    {g : Field → Option Bool × PUnit → Sem (ForInStep (Option Bool × PUnit))}
    (hg : ∀ fl s, g fl s = (if fl.name ≠ "_" then do
                    let a ← part fl.type (V.denL ρ l).toArray fl.offset
                    let b ← part fl.type (V.denL ρ m).toArray fl.offset
                    let r ← Op.equalIn d fl.type a b
                    if (!r) = true then pure (ForInStep.done (some false, ()))
                      else pure (ForInStep.yield (none, ()))
                  else pure (ForInStep.yield (none, ())))) :
    ∀ {fs : List Field} {ys : List FI} {t : Tm}, mkFIs P fs = some ys → foldEq f ys l m = some t → t.wf n ∧
      (forIn fs (none, ()) g).run P w = .ok (if t.den ρ != 0 then none else some false, ()) w := by
  intro fs
  induction fs with
  | nil =>
    intro ys t h ht
    simp [mkFIs] at h; subst h
    simp [foldEq] at ht; subst ht
    exact ⟨trivial, by simp⟩
  | cons fl fs ih =>
    intro ys t h ht
    simp only [mkFIs] at h
    split at h
    · rename_i y r hy hr
      simp at h; subst h
      obtain ⟨e1, e2, e3, _⟩ := mkFI_spec hy
      simp only [foldEq] at ht
      rw [List.forIn_cons, Sem.run_bind, hg]
      cases hb : y.blank
      · have hname : fl.name ≠ "_" := by rw [hb] at e3; simpa using e3.symm
        simp only [hb, cond_false] at ht
        rw [if_pos hname]
        split at ht
        · rename_i a b ha hb'
          obtain ⟨a1, a2⟩ := partL_spec (P := P) (ρ := ρ) (w := w) ha hl hy
          obtain ⟨b1, b2⟩ := partL_spec (P := P) (ρ := ρ) (w := w) hb' hm hy
          rw [e2] at a2 b2
          split at ht
          · rename_i u hu
            obtain ⟨u1, u2⟩ := hf y a b u hu a1 b1
            rw [e1] at u2
            simp only [Sem.run_bind, a2, b2, u2, Result.andThen_ok]
            split at ht
            · rename_i z
              cases hz : Z.beq z 0
              · simp only [hz, cond_false] at ht
                have hz' := (Z.beq_false _ _).1 hz
                obtain ⟨i1, i2⟩ := ih hr ht
                refine ⟨i1, ?_⟩
                simp only [Tm.den, show (z != 0) = true by simpa using hz', Bool.not_true, Bool.false_eq_true, if_false, Sem.run_pure, Result.andThen_ok]
                exact i2
              · simp [hz] at ht; subst ht
                have hz' := (Z.beq_iff _ _).1 hz
                refine ⟨trivial, ?_⟩
                subst hz'
                simp
            · split at ht
              · rename_i s hs
                simp at ht; subst ht
                obtain ⟨i1, i2⟩ := ih hr hs
                refine ⟨mkAnd_wf u1 i1, ?_⟩
                simp only [mkAnd_den, b2i_ne]
                by_cases h0 : u.den ρ = 0
                · simp [h0]
                · have : (u.den ρ != 0) = true := by simpa using h0
                  simp only [this, Bool.not_true, Bool.false_eq_true, if_false, Sem.run_pure, Result.andThen_ok]
                  rw [i2]
                  by_cases h1 : s.den ρ = 0 <;> simp [h0, h1]
              · simp at ht
          · simp at ht
        · simp at ht
      · have hname : ¬ fl.name ≠ "_" := by rw [hb] at e3; simpa using e3.symm
        simp only [hb, cond_true] at ht
        rw [if_neg hname]
        obtain ⟨i1, i2⟩ := ih hr ht
        refine ⟨i1, ?_⟩
        simp only [Sem.run_pure, Result.andThen_ok]
        exact i2
    · simp at h

/-- the same over an array: its parts as fields -/
theorem forIn_range {d e : Nat} {l m : List V} {n : Nat} (hl : V.wfL n l) (hm : V.wfL n m) {y : FI} (hy : mkFI P e 0 false = some y) {f : FI → V → V → Option Tm} {w : World}
    (hf : ∀ y a b t, f y a b = some t → a.wf n → b.wf n → t.wf n ∧ (Op.equalIn d y.ty (a.den ρ) (b.den ρ)).run P w = .ok (t.den ρ != 0) w)
    {g : Nat → Option Bool × PUnit → Sem (ForInStep (Option Bool × PUnit))}
    (hg : ∀ k s, g k s = (do
                    let a ← part e (V.denL ρ l).toArray (k * y.size)
                    let b ← part e (V.denL ρ m).toArray (k * y.size)
                    let r ← Op.equalIn d e a b
                    if (!r) = true then pure (ForInStep.done (some false, ()))
                      else pure (ForInStep.yield (none, ())))) :
    ∀ (k s : Nat) {t : Tm}, foldEq f (arrFI y s k) l m = some t → t.wf n ∧
      (forIn (List.range' s k) (none, ()) g).run P w = .ok (if t.den ρ != 0 then none else some false, ()) w := by
  intro k
  obtain ⟨e1, e2, e3, i, dd, q1, q2, q3, q4⟩ := mkFI_spec hy
  induction k with
  | zero =>
    intro s t ht
    simp [arrFI, foldEq] at ht; subst ht
    exact ⟨trivial, by simp⟩
  | succ k ih =>
    intro s t ht
    simp only [arrFI, foldEq, cond_false] at ht
    rw [List.range'_succ, List.forIn_cons, Sem.run_bind, hg]
    have hy' : mkFI P e (s * y.size) false = some { y with off := s * y.size, blank := false } := by
      simp only [mkFI, q1, q2]
      simp only [Option.some.injEq]
      cases y; simp_all
    split at ht
    · rename_i a b ha hb'
      obtain ⟨a1, a2⟩ := partL_spec (P := P) (ρ := ρ) (w := w) ha hl hy'
      obtain ⟨b1, b2⟩ := partL_spec (P := P) (ρ := ρ) (w := w) hb' hm hy'
      split at ht
      · rename_i u hu
        obtain ⟨u1, u2⟩ := hf _ a b u hu a1 b1
        simp only [e1] at u2
        have a2' : (part e (V.denL ρ l).toArray (s * y.size)).run P w = .ok (a.den ρ) w := a2
        have b2' : (part e (V.denL ρ m).toArray (s * y.size)).run P w = .ok (b.den ρ) w := b2
        simp only [Sem.run_bind, a2', b2', u2, Result.andThen_ok]
        split at ht
        · rename_i z
          cases hz : Z.beq z 0
          · simp only [hz, cond_false] at ht
            have hz' := (Z.beq_false _ _).1 hz
            obtain ⟨i1, i2⟩ := ih (s + 1) ht
            refine ⟨i1, ?_⟩
            simp only [Tm.den, show (z != 0) = true by simpa using hz', Bool.not_true, Bool.false_eq_true, if_false, Sem.run_pure, Result.andThen_ok]
            exact i2
          · simp [hz] at ht; subst ht
            have hz' := (Z.beq_iff _ _).1 hz
            refine ⟨trivial, ?_⟩
            subst hz'
            simp
        · split at ht
          · rename_i v hs
            simp at ht; subst ht
            obtain ⟨i1, i2⟩ := ih (s + 1) hs
            refine ⟨mkAnd_wf u1 i1, ?_⟩
            simp only [mkAnd_den, b2i_ne]
            by_cases h0 : u.den ρ = 0
            · simp [h0]
            · have : (u.den ρ != 0) = true := by simpa using h0
              simp only [this, Bool.not_true, Bool.false_eq_true, if_false, Sem.run_pure, Result.andThen_ok]
              rw [i2]
              by_cases h1 : v.den ρ = 0 <;> simp [h0, h1]
          · simp at ht
      · simp at ht
    · simp at ht

theorem eqT_spec {C : Ctx} (hC : C.Ok P) {fc : Facts} (hfc : FactsOk ρ fc) {n : Nat} (w : World) : ∀ (f d t : Nat) (x y : V) (r : Tm), f ≤ d → eqT C fc f t x y = some r → x.wf n → y.wf n →
    r.wf n ∧ (Op.equalIn d t (x.den ρ) (y.den ρ)).run P w = .ok (r.den ρ != 0) w
  | 0, _, _, _, _, _, _, h, _, _ => by simp [eqT] at h
  | f + 1, 0, _, _, _, _, hd, _, _, _ => by omega
  | f + 1, d + 1, t, x, y, r, hd, h, hx, hy => by
    have ih := fun t x y r h hx hy => eqT_spec hC hfc (n := n) w f d t x y r (by omega) h hx hy
    simp only [eqT] at h
    split at h
    · simp at h
    rename_i i hi
    have hT := hC.get hi
    rw [Op.equalIn, Sem.run_bind, hT.run_und, Result.andThen_ok]
    split at h
    · rename_i a b hu
      simp at h; subst h
      refine ⟨mkEq_wf (nb_wf hx) (nb_wf hy), ?_⟩
      simp only [hu, V.den, Sem.run_pure, mkEq_den hfc, nb_den, b2i_ne]
      congr 1
      cases (a.den ρ != 0) <;> cases (b.den ρ != 0) <;> simp [b2i]
    · rename_i k0 k a l b hu
      cases hk : kBeq k l <;> simp [hk] at h
      subst h
      have := kBeq_eq hk; subst this
      refine ⟨mkEq_wf hx hy, ?_⟩
      simp only [hu, V.den, mkEq_den hfc, b2i_ne, if_true, Sem.run_pure]
      rfl
    · rename_i a b hu
      simp at h; subst h
      refine ⟨trivial, ?_⟩
      simp only [hu, V.den, Sem.run_pure, Tm.den, b2i_ne]
      congr 1
      rw [Bool.eq_iff_iff, strEq_iff]
      show ((a.toArray == b.toArray) = true) ↔ _
      simp
    all_goals (try (simp only [Option.some.injEq] at h; subst h; refine ⟨trivial, ?_⟩; simp only [*, V.den, Sem.run_pure, Tm.den]; first | rfl | simp))
    · rename_i fs l m hu
      cases hfree : i.free <;> simp [hfree] at h
      have hst := (hT.free hfree).2
      obtain ⟨fs⟩ := fs
      have hm : mkFIs P fs = some i.flds := by have := hT.flds; rw [hu] at this; exact this
      simp only [hu, V.den, Sem.run_bind, run_program, Result.andThen_ok, hst, Bool.false_eq_true, if_false]
      rw [show ({ toList := fs } : Array Field) = fs.toArray from rfl, List.forIn_toArray]
      obtain ⟨g1, g2⟩ := forIn_eq (P := P) (ρ := ρ) (d := d) hx hy (w := w) (fun y a b t ht ha hb => ih y.ty a b t ht ha hb) (fun fl s => rfl) hm h
      refine ⟨g1, ?_⟩
      rw [g2]
      simp only [Result.andThen_ok]
      by_cases h0 : r.den ρ = 0 <;> simp [h0]
    · rename_i k e' l m hu
      split at h
      · rename_i y' hy'
        obtain ⟨e, he, hf⟩ := hT.el y' hy'
        have hu' : TypeDesc.array k e' = .array i.len e := by
          rcases he with h | h
          · rw [hu] at h; simp at h
          · rw [← hu]; exact h
        simp only [TypeDesc.array.injEq] at hu'
        obtain ⟨rfl, rfl⟩ := hu'
        simp only [hu, V.den, Sem.run_bind, run_size_fi hf, Result.andThen_ok]
        obtain ⟨g1, g2⟩ := forIn_range (P := P) (ρ := ρ) (d := d) hx hy hf (w := w) (fun y a b t ht ha hb => ih y.ty a b t ht ha hb) (fun fl s => rfl) i.len 0 h
        refine ⟨g1, ?_⟩
        have hr : ∀ (g : Nat → Option Bool × PUnit → Sem (ForInStep (Option Bool × PUnit))), forIn ([:i.len] : Std.Legacy.Range) (none, ()) g = forIn (List.range' 0 i.len) (none, ()) g := by
          intro g
          rw [Std.Legacy.Range.forIn_eq_forIn_range']
          simp [Std.Legacy.Range.size]
        rw [hr, g2]
        simp only [Result.andThen_ok]
        by_cases h0 : r.den ρ = 0 <;> simp [h0]
      · simp at h
    · simp at h
end
end Go.Sx
