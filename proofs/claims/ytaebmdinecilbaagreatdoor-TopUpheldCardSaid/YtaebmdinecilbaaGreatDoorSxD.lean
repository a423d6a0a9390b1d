/- A part of a symbolic evaluator over the model and of the proof that it is right: 'SxD'. It holds for every program; no condition. -/
import Derived.Test.YtaebmdinecilbaaGreatDoorSxC
namespace Go.Sx

/-! ## What is learned when a truth value is known -/
def isB : Tm → Bool
  | .eq _ _ | .lt _ _ | .not _ | .and _ _ | .or _ _ => true
  | _ => false
theorem isB_den {ρ : Env} {t : Tm} (h : isB t = true) : t.den ρ = 0 ∨ t.den ρ = 1 := by
  have b1 : ∀ b : Bool, b2i b = 0 ∨ b2i b = 1 := by intro b; cases b <;> simp [b2i]
  cases t <;> first | exact b1 _ | simp [isB] at h

def fact (fc : Facts) (c : Tm) (b : Bool) : Facts := bif isB c then (c, b2i b, b2i b) :: fc else bif b then fc else (c, 0, 0) :: fc
theorem fact_ok {ρ : Env} {fc : Facts} {c : Tm} {b : Bool} (h : FactsOk ρ fc) (hc : (c.den ρ != 0) = b) : FactsOk ρ (fact fc c b) := by
  unfold fact
  cases hb : isB c
  · cases b
    · intro f hf
      rcases List.mem_cons.1 hf with rfl | hf
      · simp at hc; simp [hc]
      · exact h f hf
    · exact h
  · intro f hf
    rcases List.mem_cons.1 hf with rfl | hf
    · rcases isB_den (ρ := ρ) hb with e | e <;> simp [e] at hc <;> subst hc <;> simp [e, b2i]
    · exact h f hf

def below (fc : Facts) (x : Tm) (m : Int) : Facts := match rng fc x with | some (p, q) => bif Z.le q m then fc else (x, p, m) :: fc | none => fc
def above (fc : Facts) (x : Tm) (m : Int) : Facts := match rng fc x with | some (p, q) => bif Z.le m p then fc else (x, m, q) :: fc | none => fc
theorem below_ok {ρ : Env} {fc : Facts} {x : Tm} {m : Int} (h : FactsOk ρ fc) (hx : x.den ρ ≤ m) : FactsOk ρ (below fc x m) := by
  unfold below
  have hr := rng_sound h x
  split
  · rename_i p q e
    rw [e] at hr
    cases Z.le q m
    · intro f hf
      rcases List.mem_cons.1 hf with rfl | hf
      · exact ⟨hr.1, hx⟩
      · exact h f hf
    · exact h
  · exact h
theorem above_ok {ρ : Env} {fc : Facts} {x : Tm} {m : Int} (h : FactsOk ρ fc) (hx : m ≤ x.den ρ) : FactsOk ρ (above fc x m) := by
  unfold above
  have hr := rng_sound h x
  split
  · rename_i p q e
    rw [e] at hr
    cases Z.le m p
    · intro f hf
      rcases List.mem_cons.1 hf with rfl | hf
      · exact ⟨hx, hr.2⟩
      · exact h f hf
    · exact h
  · exact h

/-- y - x is at least m, of two that are no plain numbers -/
def subFact (fc : Facts) (x y : Tm) (m : Int) : Facts :=
  match x, y with
  | .lit _, _ => fc
  | _, .lit _ => fc
  | x, y => above fc (.sub y x) m
theorem subFact_ok {ρ : Env} {fc : Facts} {x y : Tm} {m : Int} (h : FactsOk ρ fc) (hx : m ≤ y.den ρ - x.den ρ) : FactsOk ρ (subFact fc x y m) := by
  unfold subFact
  split
  · exact h
  · exact h
  · exact above_ok h hx
/-- x < y -/
def learnLt0 (fc : Facts) (x y : Tm) : Facts :=
  let fc1 := match rng fc y with | some (_, s) => below fc x (s - 1) | none => fc
  match rng fc x with | some (p, _) => above fc1 y (p + 1) | none => fc1
/-- x <= y -/
def learnLe0 (fc : Facts) (x y : Tm) : Facts :=
  let fc1 := match rng fc y with | some (_, s) => below fc x s | none => fc
  match rng fc x with | some (p, _) => above fc1 y p | none => fc1
theorem learnLt0_ok {ρ : Env} {fc : Facts} {x y : Tm} (h : FactsOk ρ fc) (hx : x.den ρ < y.den ρ) : FactsOk ρ (learnLt0 fc x y) := by
  unfold learnLt0
  have hrx := rng_sound h x
  have hry := rng_sound h y
  have h1 : FactsOk ρ (match rng fc y with | some (_, s) => below fc x (s - 1) | none => fc) := by
    split
    · rename_i e; rw [e] at hry; simp only [InR] at hry; exact below_ok h (by omega)
    · exact h
  dsimp only
  generalize (match rng fc y with | some (_, s) => below fc x (s - 1) | none => fc) = fc1 at *
  split
  · rename_i e; rw [e] at hrx; simp only [InR] at hrx; exact above_ok h1 (by omega)
  · exact h1
theorem learnLe0_ok {ρ : Env} {fc : Facts} {x y : Tm} (h : FactsOk ρ fc) (hx : x.den ρ ≤ y.den ρ) : FactsOk ρ (learnLe0 fc x y) := by
  unfold learnLe0
  have hrx := rng_sound h x
  have hry := rng_sound h y
  have h1 : FactsOk ρ (match rng fc y with | some (_, s) => below fc x s | none => fc) := by
    split
    · rename_i e; rw [e] at hry; simp only [InR] at hry; exact below_ok h (by omega)
    · exact h
  dsimp only
  generalize (match rng fc y with | some (_, s) => below fc x s | none => fc) = fc1 at *
  split
  · rename_i e; rw [e] at hrx; simp only [InR] at hrx; exact above_ok h1 (by omega)
  · exact h1
def learnLt (fc : Facts) (x y : Tm) : Facts := subFact (learnLt0 fc x y) x y 1
def learnLe (fc : Facts) (x y : Tm) : Facts := subFact (learnLe0 fc x y) x y 0
theorem learnLt_ok {ρ : Env} {fc : Facts} {x y : Tm} (h : FactsOk ρ fc) (hx : x.den ρ < y.den ρ) : FactsOk ρ (learnLt fc x y) := subFact_ok (learnLt0_ok h hx) (by omega)
theorem learnLe_ok {ρ : Env} {fc : Facts} {x y : Tm} (h : FactsOk ρ fc) (hx : x.den ρ ≤ y.den ρ) : FactsOk ρ (learnLe fc x y) := subFact_ok (learnLe0_ok h hx) (by omega)
/-- x /= z -/
def learnNe (fc : Facts) (x : Tm) (y : Tm) : Facts :=
  match num fc y, rng fc x with
  | some z, some (p, q) => bif Z.beq z p then above fc x (p + 1) else bif Z.beq z q then below fc x (q - 1) else fc
  | _, _ => fc
theorem learnNe_ok {ρ : Env} {fc : Facts} {x y : Tm} (h : FactsOk ρ fc) (hx : x.den ρ ≠ y.den ρ) : FactsOk ρ (learnNe fc x y) := by
  unfold learnNe
  have hrx := rng_sound h x
  split
  · rename_i z p q e1 e2
    have := num_sound h e1
    rw [e2] at hrx; simp only [InR] at hrx
    cases h1 : Z.beq z p
    · cases h2 : Z.beq z q
      · exact h
      · have := (Z.beq_iff _ _).1 h2; exact below_ok h (by omega)
    · have := (Z.beq_iff _ _).1 h1; exact above_ok h (by omega)
  · exact h

def learn : Facts → Tm → Bool → Facts
  | fc, .not a, b => learn fc a (!b)
  | fc, .and x y, true => learn (learn fc x true) y true
  | fc, .or x y, false => learn (learn fc x false) y false
  | fc, .lt x y, true => learnLt (fact fc (.lt x y) true) x y
  | fc, .lt x y, false => learnLe (fact fc (.lt x y) false) y x
  | fc, .eq x y, true => learnLe (learnLe (fact fc (.eq x y) true) x y) y x
  | fc, .eq x y, false => learnNe (learnNe (fact fc (.eq x y) false) x y) y x
  | fc, c, b => fact fc c b
theorem learn_ok {ρ : Env} : ∀ {c : Tm} {fc : Facts} {b : Bool}, FactsOk ρ fc → (c.den ρ != 0) = b → FactsOk ρ (learn fc c b) := by
  have b0 : ∀ b : Bool, (b2i b != 0) = b := by intro b; cases b <;> rfl
  intro c
  induction c with
  | not a ia =>
    intro fc b h hc
    simp only [learn]
    refine ia h ?_
    simp only [Tm.den, b0] at hc
    rw [← hc]; by_cases e : a.den ρ = 0 <;> simp [e]
  | and x y ix iy =>
    intro fc b h hc
    cases b
    · exact fact_ok h hc
    · simp only [Tm.den, b0] at hc
      simp at hc
      exact iy (ix h (by simp [hc.1])) (by simp [hc.2])
  | or x y ix iy =>
    intro fc b h hc
    cases b
    · simp only [Tm.den, b0] at hc
      simp at hc
      exact iy (ix h (by simp [hc.1])) (by simp [hc.2])
    · exact fact_ok h hc
  | lt x y ix iy =>
    intro fc b h hc
    have hf := fact_ok h hc
    simp only [Tm.den, b0] at hc
    cases b
    · simp at hc; exact learnLe_ok hf hc
    · simp at hc; exact learnLt_ok hf hc
  | eq x y ix iy =>
    intro fc b h hc
    have hf := fact_ok h hc
    simp only [Tm.den, b0] at hc
    cases b
    · simp at hc; exact learnNe_ok (learnNe_ok hf hc) (Ne.symm hc)
    · simp at hc; exact learnLe_ok (learnLe_ok hf (by omega)) (by omega)
  | _ =>
    intro fc b h hc
    first | exact fact_ok h hc | (cases b <;> exact fact_ok h hc)

/-! ## Terms made -/
def mkAdd (a b : Tm) : Tm :=
  match a, b with
  | .lit x, .lit y => .lit (x + y)
  | .add u (.lit x), .lit y => bif Z.beq (x + y) 0 then u else .add u (.lit (x + y))
  | a, .lit y => bif Z.beq y 0 then a else .add a (.lit y)
  | .lit x, b => bif Z.beq x 0 then b else .add b (.lit x)
  | a, .sub (.lit z) b => bif Z.beq z 0 then .sub a b else .add a (.sub (.lit z) b)
  | a, b => .add a b
theorem mkAdd_den (ρ : Env) (a b : Tm) : (mkAdd a b).den ρ = a.den ρ + b.den ρ := by
  unfold mkAdd
  split
  · rfl
  · rename_i u x y
    cases h : Z.beq (x + y) 0
    · simp [Int.add_assoc]
    · have := (Z.beq_iff _ _).1 h; simp; omega
  · rename_i y _ _
    cases h : Z.beq y 0
    · rfl
    · have := (Z.beq_iff _ _).1 h; simp [this]
  · rename_i x _
    cases h : Z.beq x 0
    · simp [Int.add_comm]
    · have := (Z.beq_iff _ _).1 h; simp [this]
  · rename_i z _ _
    cases h : Z.beq z 0
    · rfl
    · have := (Z.beq_iff _ _).1 h; subst this; simp; omega
  · rfl
def mkSub (a b : Tm) : Tm :=
  match a, b with
  | a, .lit y => mkAdd a (.lit (-y))
  | a, b => .sub a b
theorem mkSub_den (ρ : Env) (a b : Tm) : (mkSub a b).den ρ = a.den ρ - b.den ρ := by
  unfold mkSub
  split
  · rw [mkAdd_den]; simp; omega
  · rfl
def mkMul (a b : Tm) : Tm :=
  match a, b with
  | .lit x, .lit y => .lit (x * y)
  | a, .lit y => bif Z.beq y 1 then a else .mul a (.lit y)
  | .lit x, b => bif Z.beq x 1 then b else .mul b (.lit x)
  | a, b => .mul a b
theorem mkMul_den (ρ : Env) (a b : Tm) : (mkMul a b).den ρ = a.den ρ * b.den ρ := by
  unfold mkMul
  split
  · rfl
  · rename_i y _
    cases h : Z.beq y 1
    · rfl
    · have := (Z.beq_iff _ _).1 h; simp [this]
  · rename_i x _
    cases h : Z.beq x 1
    · simp [Int.mul_comm]
    · have := (Z.beq_iff _ _).1 h; simp [this]
  · rfl
def mkWrap (fc : Facts) (k : IntKind) (t : Tm) : Tm :=
  match t with
  | .lit z => .lit (wrapZ k z)
  | t => match rng fc t with
    | some (p, q) => bif inK k p q then t else .wrap k t
    | none => .wrap k t
theorem mkWrap_den {ρ : Env} {fc : Facts} (h : FactsOk ρ fc) (k : IntKind) (t : Tm) : (mkWrap fc k t).den ρ = k.wrap (t.den ρ) := by
  have key : (match rng fc t with | some (p, q) => bif inK k p q then t else .wrap k t | none => Tm.wrap k t).den ρ = k.wrap (t.den ρ) := by
    have hr := rng_sound h t
    split
    · rename_i p q e
      rw [e] at hr; simp only [InR] at hr
      cases hk : inK k p q
      · rfl
      · simp [inK, Z.le_iff] at hk
        rw [wrap_id k _ (by omega) (by omega)]; rfl
    · rfl
  cases t <;> first | exact key | skip
  simp [mkWrap, wrapZ_eq]
def mkNot (a : Tm) : Tm := match a with | .lit z => .lit (b2i (Z.beq z 0)) | .not (.not a) => .not a | a => .not a
theorem mkNot_den (ρ : Env) (a : Tm) : (mkNot a).den ρ = b2i (decide (a.den ρ = 0)) := by
  unfold mkNot
  split
  · rename_i z
    cases h : Z.beq z 0
    · have := (Z.beq_false _ _).1 h; simp [this]
    · have := (Z.beq_iff _ _).1 h; simp [this]
  · rename_i a
    simp only [Tm.den]; by_cases e : a.den ρ = 0 <;> simp [e, b2i]
  · rfl
def mkEq0 (fc : Facts) (a b : Tm) : Tm :=
  match a, b with
  | .lit x, .lit y => .lit (b2i (Z.beq x y))
  | a, b => bif a.beq b then .lit 1 else match rng fc (.eq a b) with
    | some (p, q) => bif Z.beq p q then .lit p else .eq a b
    | none => .eq a b
theorem mkEq0_den {ρ : Env} {fc : Facts} (h : FactsOk ρ fc) (a b : Tm) : (mkEq0 fc a b).den ρ = b2i (decide (a.den ρ = b.den ρ)) := by
  unfold mkEq0
  split
  · rename_i x y
    cases h : Z.beq x y
    · have := (Z.beq_false _ _).1 h; simp [this]
    · have := (Z.beq_iff _ _).1 h; simp [this]
  · cases hb : a.beq b
    · have hr := rng_sound h (.eq a b)
      simp only [cond_false]
      split
      · rename_i p q e
        rw [e] at hr; simp only [InR, Tm.den] at hr
        cases hk : Z.beq p q
        · rfl
        · have := (Z.beq_iff _ _).1 hk
          simp only [cond_true, Tm.den]; omega
      · rfl
    · rw [Tm.beq_eq hb]; simp [b2i]
def mkLt0 (fc : Facts) (a b : Tm) : Tm :=
  match a, b with
  | .lit x, .lit y => .lit (b2i (!(Z.le y x)))
  | a, b => match rng fc (.lt a b) with
    | some (p, q) => bif Z.beq p q then .lit p else .lt a b
    | none => .lt a b
theorem mkLt0_den {ρ : Env} {fc : Facts} (h : FactsOk ρ fc) (a b : Tm) : (mkLt0 fc a b).den ρ = b2i (decide (a.den ρ < b.den ρ)) := by
  unfold mkLt0
  split
  · rename_i x y
    cases h : Z.le y x
    · have := (Z.le_false _ _).1 h; simp [this]
    · have := (Z.le_iff _ _).1 h; simp [show ¬ x < y by omega]
  · have hr := rng_sound h (.lt a b)
    split
    · rename_i p q e
      rw [e] at hr; simp only [InR, Tm.den] at hr
      cases hk : Z.beq p q
      · rfl
      · have := (Z.beq_iff _ _).1 hk
        simp only [cond_true, Tm.den]; omega
    · rfl
/-- how much the one is more than the other, if that is a plain number -/
def offT : Tm → Option (Tm × Int)
  | .add u (.lit z) => some (u, z)
  | _ => none
theorem offT_ok {ρ : Env} {a u : Tm} {z : Int} (h : offT a = some (u, z)) : a.den ρ = u.den ρ + z := by
  unfold offT at h
  split at h
  · simp only [Option.some.injEq, Prod.mk.injEq] at h
    obtain ⟨rfl, rfl⟩ := h
    rfl
  · simp at h
def difT (a b : Tm) : Option Int :=
  match offT a, offT b with
  | some (u, x), some (v, y) => bif u.beq v then some (x - y) else none
  | some (u, x), none => bif u.beq b then some x else none
  | none, some (v, y) => bif a.beq v then some (0 - y) else none
  | none, none => none
theorem difT_ok {ρ : Env} {a b : Tm} {z : Int} (h : difT a b = some z) : a.den ρ - b.den ρ = z := by
  unfold difT at h
  split at h
  · rename_i u x v y e1 e2
    cases hb : u.beq v <;> simp [hb] at h
    have := Tm.beq_eq hb; subst this
    rw [offT_ok (ρ := ρ) e1, offT_ok (ρ := ρ) e2]; omega
  · rename_i u x e1 e2
    cases hb : u.beq b <;> simp [hb] at h
    have := Tm.beq_eq hb; subst this
    rw [offT_ok (ρ := ρ) e1]; omega
  · rename_i v y e1 e2
    cases hb : a.beq v <;> simp [hb] at h
    have := Tm.beq_eq hb; subst this
    rw [offT_ok (ρ := ρ) e2]; omega
  · simp at h
def mkEq (fc : Facts) (a b : Tm) : Tm := match difT a b with | some z => .lit (b2i (Z.beq z 0)) | none => mkEq0 fc a b
theorem mkEq_den {ρ : Env} {fc : Facts} (h : FactsOk ρ fc) (a b : Tm) : (mkEq fc a b).den ρ = b2i (decide (a.den ρ = b.den ρ)) := by
  unfold mkEq
  split
  · rename_i z hz
    have hd := difT_ok (ρ := ρ) hz
    cases hk : Z.beq z 0
    · have := (Z.beq_false _ _).1 hk
      simp [show ¬ a.den ρ = b.den ρ by omega]
    · have := (Z.beq_iff _ _).1 hk
      simp [show a.den ρ = b.den ρ by omega]
  · exact mkEq0_den h a b
def mkLt (fc : Facts) (a b : Tm) : Tm := match difT a b with | some z => .lit (b2i (!(Z.le 0 z))) | none => mkLt0 fc a b
theorem mkLt_den {ρ : Env} {fc : Facts} (h : FactsOk ρ fc) (a b : Tm) : (mkLt fc a b).den ρ = b2i (decide (a.den ρ < b.den ρ)) := by
  unfold mkLt
  split
  · rename_i z hz
    have hd := difT_ok (ρ := ρ) hz
    cases hk : Z.le 0 z
    · have := (Z.le_false _ _).1 hk
      simp [show a.den ρ < b.den ρ by omega]
    · have := (Z.le_iff _ _).1 hk
      simp [show ¬ a.den ρ < b.den ρ by omega]
  · exact mkLt0_den h a b
def mkAnd (a b : Tm) : Tm :=
  match a, b with
  | .lit x, b => bif Z.beq x 0 then .lit 0 else bif isB b then b else .and (.lit x) b
  | a, .lit y => bif Z.beq y 0 then .lit 0 else bif isB a then a else .and a (.lit y)
  | a, b => .and a b
theorem mkAnd_den (ρ : Env) (a b : Tm) : (mkAnd a b).den ρ = b2i (decide (a.den ρ ≠ 0) && decide (b.den ρ ≠ 0)) := by
  unfold mkAnd
  split
  · rename_i x
    cases h : Z.beq x 0
    · have := (Z.beq_false _ _).1 h
      cases hb : isB b
      · rfl
      · rcases isB_den (ρ := ρ) hb with e | e <;> simp [e, this, b2i]
    · have := (Z.beq_iff _ _).1 h; simp [this, b2i]
  · rename_i y _
    cases h : Z.beq y 0
    · have := (Z.beq_false _ _).1 h
      cases hb : isB a
      · rfl
      · rcases isB_den (ρ := ρ) hb with e | e <;> simp [e, this, b2i]
    · have := (Z.beq_iff _ _).1 h; simp [this, b2i]
  · rfl
def mkIte (fc : Facts) (c a b : Tm) : Tm :=
  match tv fc c with
  | some true => a
  | some false => b
  | none => bif a.beq b then a else
    match a, b with
    | .lit x, .lit y => bif isB c && Z.beq x 1 && Z.beq y 0 then c else bif isB c && Z.beq x 0 && Z.beq y 1 then .not c else .ite c a b
    | .lit x, b => bif isB c && isB b && Z.beq x 1 then .or c b else .ite c a b
    | a, .lit y => bif isB c && isB a && Z.beq y 0 then .and c a else .ite c a b
    | a, b => .ite c a b
theorem mkIte_den {ρ : Env} {fc : Facts} (h : FactsOk ρ fc) (c a b : Tm) : (mkIte fc c a b).den ρ = if c.den ρ = 0 then b.den ρ else a.den ρ := by
  unfold mkIte
  split
  · rename_i e; have := tv_sound h e; simp at this; simp [this]
  · rename_i e; have := tv_sound h e; simp at this; simp [this]
  · cases hab : a.beq b
    · simp only [cond_false]
      split
      · rename_i x y
        cases hc : isB c
        · rfl
        · rcases isB_den (ρ := ρ) hc with e | e <;> cases h1 : Z.beq x 1 <;> cases h2 : Z.beq y 0 <;> cases h3 : Z.beq x 0 <;> cases h4 : Z.beq y 1 <;> simp [e, b2i] <;> simp [Z.beq_iff] at h1 h2 h3 h4 <;> omega
      · rename_i x _
        cases hc : isB c
        · rfl
        · cases hb : isB b
          · rfl
          · rcases isB_den (ρ := ρ) hc with e | e <;> rcases isB_den (ρ := ρ) hb with e' | e' <;> cases h1 : Z.beq x 1 <;> simp [e, e', b2i] <;> simp [Z.beq_iff] at h1 <;> omega
      · rename_i y _
        cases hc : isB c
        · rfl
        · cases hb : isB a
          · rfl
          · rcases isB_den (ρ := ρ) hc with e | e <;> rcases isB_den (ρ := ρ) hb with e' | e' <;> cases h1 : Z.beq y 0 <;> simp [e, e', b2i] <;> simp [Z.beq_iff] at h1 <;> omega
      · rfl
    · have := Tm.beq_eq hab; subst this; simp
end Go.Sx
namespace Go.Sx
/-! ## The numbers that terms name -/
def FactsWf (n : Nat) (fc : Facts) : Prop := ∀ f ∈ fc, f.1.wf n
theorem FactsWf.cons {n : Nat} {fc : Facts} {t : Tm} {r : Int × Int} (h : FactsWf n fc) (ht : t.wf n) : FactsWf n ((t, r) :: fc) := by
  intro f hf
  rcases List.mem_cons.1 hf with rfl | hf
  · exact ht
  · exact h f hf
theorem fact_wf {n : Nat} {fc : Facts} {c : Tm} {b : Bool} (h : FactsWf n fc) (hc : c.wf n) : FactsWf n (fact fc c b) := by
  unfold fact; cases isB c <;> cases b <;> first | exact h.cons hc | exact h
theorem below_wf {n : Nat} {fc : Facts} {c : Tm} {m : Int} (h : FactsWf n fc) (hc : c.wf n) : FactsWf n (below fc c m) := by
  unfold below; split
  · cases Z.le _ m <;> first | exact h.cons hc | exact h
  · exact h
theorem above_wf {n : Nat} {fc : Facts} {c : Tm} {m : Int} (h : FactsWf n fc) (hc : c.wf n) : FactsWf n (above fc c m) := by
  unfold above; split
  · cases Z.le m _ <;> first | exact h.cons hc | exact h
  · exact h
theorem learnLt0_wf {n : Nat} {fc : Facts} {x y : Tm} (h : FactsWf n fc) (hx : x.wf n) (hy : y.wf n) : FactsWf n (learnLt0 fc x y) := by
  have h1 : FactsWf n (match rng fc y with | some (_, s) => below fc x (s - 1) | none => fc) := by
    split
    · exact below_wf h hx
    · exact h
  unfold learnLt0; dsimp only
  generalize (match rng fc y with | some (_, s) => below fc x (s - 1) | none => fc) = fc1 at *
  split
  · exact above_wf h1 hy
  · exact h1
theorem learnLe0_wf {n : Nat} {fc : Facts} {x y : Tm} (h : FactsWf n fc) (hx : x.wf n) (hy : y.wf n) : FactsWf n (learnLe0 fc x y) := by
  have h1 : FactsWf n (match rng fc y with | some (_, s) => below fc x s | none => fc) := by
    split
    · exact below_wf h hx
    · exact h
  unfold learnLe0; dsimp only
  generalize (match rng fc y with | some (_, s) => below fc x s | none => fc) = fc1 at *
  split
  · exact above_wf h1 hy
  · exact h1
theorem subFact_wf {n : Nat} {fc : Facts} {x y : Tm} {m : Int} (h : FactsWf n fc) (hx : x.wf n) (hy : y.wf n) : FactsWf n (subFact fc x y m) := by
  unfold subFact
  split
  · exact h
  · exact h
  · exact above_wf h ⟨hy, hx⟩
theorem learnLt_wf {n : Nat} {fc : Facts} {x y : Tm} (h : FactsWf n fc) (hx : x.wf n) (hy : y.wf n) : FactsWf n (learnLt fc x y) := subFact_wf (learnLt0_wf h hx hy) hx hy
theorem learnLe_wf {n : Nat} {fc : Facts} {x y : Tm} (h : FactsWf n fc) (hx : x.wf n) (hy : y.wf n) : FactsWf n (learnLe fc x y) := subFact_wf (learnLe0_wf h hx hy) hx hy
theorem learnNe_wf {n : Nat} {fc : Facts} {x y : Tm} (h : FactsWf n fc) (hx : x.wf n) : FactsWf n (learnNe fc x y) := by
  unfold learnNe; split
  · rename_i z p q _ _
    cases Z.beq z p
    · cases Z.beq z q
      · exact h
      · exact below_wf h hx
    · exact above_wf h hx
  · exact h
theorem learn_wf {n : Nat} : ∀ {c : Tm} {fc : Facts} {b : Bool}, FactsWf n fc → c.wf n → FactsWf n (learn fc c b) := by
  intro c
  induction c with
  | not a ia => intro fc b h hc; exact ia h hc
  | and x y ix iy =>
    intro fc b h hc
    cases b
    · exact fact_wf h hc
    · exact iy (ix h hc.1) hc.2
  | or x y ix iy =>
    intro fc b h hc
    cases b
    · exact iy (ix h hc.1) hc.2
    · exact fact_wf h hc
  | lt x y ix iy =>
    intro fc b h hc
    cases b
    · exact learnLe_wf (fact_wf h hc) hc.2 hc.1
    · exact learnLt_wf (fact_wf h hc) hc.1 hc.2
  | eq x y ix iy =>
    intro fc b h hc
    cases b
    · exact learnNe_wf (learnNe_wf (fact_wf h hc) hc.1) hc.2
    · exact learnLe_wf (learnLe_wf (fact_wf h hc) hc.1 hc.2) hc.2 hc.1
  | _ => intro fc b h hc; first | exact fact_wf h hc | (cases b <;> exact fact_wf h hc)

section
variable {n : Nat} {a b c : Tm} {fc : Facts}
theorem mkAdd_wf (ha : a.wf n) (hb : b.wf n) : (mkAdd a b).wf n := by
  unfold mkAdd; split
  · trivial
  · cases Z.beq _ 0
    · exact ⟨ha.1, trivial⟩
    · exact ha.1
  · cases Z.beq _ 0
    · exact ⟨ha, trivial⟩
    · exact ha
  · cases Z.beq _ 0
    · exact ⟨hb, trivial⟩
    · exact hb
  · cases Z.beq _ 0
    · exact ⟨ha, trivial, hb.2⟩
    · exact ⟨ha, hb.2⟩
  · exact ⟨ha, hb⟩
theorem mkSub_wf (ha : a.wf n) (hb : b.wf n) : (mkSub a b).wf n := by
  unfold mkSub; split
  · exact mkAdd_wf ha trivial
  · exact ⟨ha, hb⟩
theorem mkMul_wf (ha : a.wf n) (hb : b.wf n) : (mkMul a b).wf n := by
  unfold mkMul; split
  · trivial
  · cases Z.beq _ 1
    · exact ⟨ha, trivial⟩
    · exact ha
  · cases Z.beq _ 1
    · exact ⟨hb, trivial⟩
    · exact hb
  · exact ⟨ha, hb⟩
theorem mkWrap_wf {k : IntKind} (ha : a.wf n) : (mkWrap fc k a).wf n := by
  unfold mkWrap; split
  · trivial
  · split
    · cases inK k _ _ <;> exact ha
    · exact ha
theorem mkNot_wf (ha : a.wf n) : (mkNot a).wf n := by
  unfold mkNot; split <;> first | trivial | exact ha
theorem mkEq0_wf (ha : a.wf n) (hb : b.wf n) : (mkEq0 fc a b).wf n := by
  unfold mkEq0; split
  · trivial
  · cases a.beq b
    · simp only [cond_false]; split
      · cases Z.beq _ _ <;> first | exact ⟨ha, hb⟩ | trivial
      · exact ⟨ha, hb⟩
    · trivial
theorem mkLt0_wf (ha : a.wf n) (hb : b.wf n) : (mkLt0 fc a b).wf n := by
  unfold mkLt0; split
  · trivial
  · split
    · cases Z.beq _ _ <;> first | exact ⟨ha, hb⟩ | trivial
    · exact ⟨ha, hb⟩
theorem mkEq_wf (ha : a.wf n) (hb : b.wf n) : (mkEq fc a b).wf n := by
  unfold mkEq; split
  · trivial
  · exact mkEq0_wf ha hb
theorem mkLt_wf (ha : a.wf n) (hb : b.wf n) : (mkLt fc a b).wf n := by
  unfold mkLt; split
  · trivial
  · exact mkLt0_wf ha hb
theorem mkAnd_wf (ha : a.wf n) (hb : b.wf n) : (mkAnd a b).wf n := by
  unfold mkAnd; split
  · cases Z.beq _ 0
    · cases isB b <;> first | exact ⟨ha, hb⟩ | exact hb
    · trivial
  · cases Z.beq _ 0
    · cases isB a <;> first | exact ⟨ha, hb⟩ | exact ha
    · trivial
  · exact ⟨ha, hb⟩
theorem bif_wf {x y : Tm} {q : Bool} (hx : x.wf n) (hy : y.wf n) : (bif q then x else y).wf n := by cases q <;> assumption
theorem mkIte_wf (hc : c.wf n) (ha : a.wf n) (hb : b.wf n) : (mkIte fc c a b).wf n := by
  unfold mkIte; split
  · exact ha
  · exact hb
  · refine bif_wf ha ?_
    split
    · exact bif_wf hc (bif_wf hc ⟨hc, ha, hb⟩)
    · exact bif_wf ⟨hc, hb⟩ ⟨hc, ha, hb⟩
    · exact bif_wf ⟨hc, ha⟩ ⟨hc, ha, hb⟩
    · exact ⟨hc, ha, hb⟩
end
end Go.Sx
