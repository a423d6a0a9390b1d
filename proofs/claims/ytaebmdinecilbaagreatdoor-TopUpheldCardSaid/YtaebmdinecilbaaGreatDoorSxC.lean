/- A part of a symbolic evaluator over the model and of the proof that it is right: 'SxC'. It holds for every program; no condition. -/
import Derived.Test.YtaebmdinecilbaaGreatDoorSxB
namespace Go.Sx

/-! ## Whole numbers that the kernel reckons fast -/
def Z.le : Int → Int → Bool
  | .ofNat m, .ofNat n => Nat.ble m n
  | .negSucc _, .ofNat _ => true
  | .ofNat _, .negSucc _ => false
  | .negSucc m, .negSucc n => Nat.ble n m
theorem Z.le_iff (a b : Int) : Z.le a b = true ↔ a ≤ b := by
  cases a <;> cases b <;> simp [Z.le] <;> omega
theorem Z.le_false (a b : Int) : Z.le a b = false ↔ b < a := by
  have := Z.le_iff a b
  cases h : Z.le a b <;> simp [h] at this ⊢ <;> omega
def Z.beq : Int → Int → Bool
  | .ofNat m, .ofNat n => Nat.beq m n
  | .negSucc m, .negSucc n => Nat.beq m n
  | _, _ => false
theorem Z.beq_iff (a b : Int) : Z.beq a b = true ↔ a = b := by
  cases a <;> cases b <;> simp [Z.beq, Int.ofNat_inj]
theorem Z.beq_false (a b : Int) : Z.beq a b = false ↔ a ≠ b := by
  have := Z.beq_iff a b
  cases h : Z.beq a b <;> simp [h] at this ⊢ <;> exact this
def Z.min (a b : Int) : Int := bif Z.le a b then a else b
def Z.max (a b : Int) : Int := bif Z.le a b then b else a
theorem Z.min_le (a b : Int) : Z.min a b ≤ a ∧ Z.min a b ≤ b := by
  unfold Z.min; cases h : Z.le a b
  · have := (Z.le_false a b).1 h; simp; omega
  · have := (Z.le_iff a b).1 h; simp; omega
theorem Z.le_max (a b : Int) : a ≤ Z.max a b ∧ b ≤ Z.max a b := by
  unfold Z.max; cases h : Z.le a b
  · have := (Z.le_false a b).1 h; simp; omega
  · have := (Z.le_iff a b).1 h; simp; omega

def kLo : IntKind → Int
  | .i8 => -128 | .i16 => -32768 | .i32 => -2147483648 | .i64 => -9223372036854775808
  | _ => 0
def kHi : IntKind → Int
  | .i8 => 127 | .i16 => 32767 | .i32 => 2147483647 | .i64 => 9223372036854775807
  | .u8 => 255 | .u16 => 65535 | .u32 => 4294967295 | .u64 => 18446744073709551615
theorem wrap_range (k : IntKind) (z : Int) : kLo k ≤ k.wrap z ∧ k.wrap z ≤ kHi k := by
  cases k <;> simp [IntKind.wrap, IntKind.signed, IntKind.bits, kLo, kHi] <;> (try split) <;> omega
theorem wrap_id (k : IntKind) (z : Int) (h : kLo k ≤ z) (h' : z ≤ kHi k) : k.wrap z = z := by
  cases k <;> simp [IntKind.wrap, IntKind.signed, IntKind.bits, kLo, kHi] at * <;> (try split) <;> omega
def inK (k : IntKind) (lo hi : Int) : Bool := Z.le (kLo k) lo && Z.le hi (kHi k)
def wrapZ (k : IntKind) (z : Int) : Int := bif inK k z z then z else k.wrap z
theorem wrapZ_eq (k : IntKind) (z : Int) : wrapZ k z = k.wrap z := by
  unfold wrapZ inK
  cases h : (Z.le (kLo k) z && Z.le z (kHi k))
  · rfl
  · simp [Z.le_iff] at h; rw [wrap_id k z h.1 h.2]; rfl

/-! ## Comparing terms -/
def kBeq : IntKind → IntKind → Bool
  | .i8, .i8 | .i16, .i16 | .i32, .i32 | .i64, .i64 | .u8, .u8 | .u16, .u16 | .u32, .u32 | .u64, .u64 => true
  | _, _ => false
theorem kBeq_eq {a b : IntKind} (h : kBeq a b = true) : a = b := by cases a <;> cases b <;> first | rfl | simp [kBeq] at h
def Tm.beq : Tm → Tm → Bool
  | .lit a, .lit b => Z.beq a b
  | .var a, .var b => Nat.beq a b
  | .add a b, .add c d | .sub a b, .sub c d | .mul a b, .mul c d | .quo a b, .quo c d | .rem a b, .rem c d
  | .eq a b, .eq c d | .lt a b, .lt c d | .and a b, .and c d | .or a b, .or c d => a.beq c && b.beq d
  | .wrap k a, .wrap l b => kBeq k l && a.beq b
  | .not a, .not b => a.beq b
  | .ite a b c, .ite d e f => a.beq d && b.beq e && c.beq f
  | _, _ => false
theorem Tm.beq_eq : ∀ {a b : Tm}, a.beq b = true → a = b := by
  intro a
  induction a <;> intro b h <;> cases b <;> simp [Tm.beq] at h
  case lit.lit => rw [(Z.beq_iff _ _).1 h]
  case var.var => rw [h]
  case wrap.wrap ih _ _ => rw [kBeq_eq h.1, ih h.2]
  case not.not ih _ => rw [ih h]
  case ite.ite i1 i2 i3 _ _ _ => rw [i1 h.1.1, i2 h.1.2, i3 h.2]
  all_goals (rename_i i1 i2 _ _; rw [i1 h.1, i2 h.2])

/-! ## What is known of terms -/
abbrev Facts := List (Tm × Int × Int)
def FactsOk (ρ : Env) (fc : Facts) : Prop := ∀ f ∈ fc, f.2.1 ≤ f.1.den ρ ∧ f.1.den ρ ≤ f.2.2
def look : Facts → Tm → Option (Int × Int) → Option (Int × Int)
  | [], _, r => r
  | (u, lo, hi) :: l, t, r => look l t (bif u.beq t then (match r with | none => some (lo, hi) | some (a, b) => some (Z.max lo a, Z.min hi b)) else r)
def InR (z : Int) : Option (Int × Int) → Prop
  | none => True
  | some (lo, hi) => lo ≤ z ∧ z ≤ hi
theorem look_sound {ρ : Env} (t : Tm) : ∀ (fc : Facts) (r : Option (Int × Int)), FactsOk ρ fc → InR (t.den ρ) r → InR (t.den ρ) (look fc t r)
  | [], _, _, h => h
  | (u, lo, hi) :: l, r, h, hr => by
    have hl : FactsOk ρ l := fun f hf => h f (List.mem_cons_of_mem _ hf)
    have h1 := h (u, lo, hi) (List.mem_cons_self ..)
    unfold look
    refine look_sound t l _ hl ?_
    cases hu : u.beq t
    · exact hr
    · have := Tm.beq_eq hu; subst this
      cases r with
      | none => exact h1
      | some p =>
        obtain ⟨a, b⟩ := p
        simp only [InR, cond_true] at hr h1 ⊢
        unfold Z.max Z.min
        cases Z.le lo a <;> cases Z.le hi b <;> simp <;> omega

def tq (z d : Int) : Int := z.tdiv d
def hull4 (a b c d : Int) : Int × Int := (Z.min (Z.min a b) (Z.min c d), Z.max (Z.max a b) (Z.max c d))

/-- a range of one of two terms: the lesser, the greater, or any -/
def hullI (c a b : Tm) : Option (Int × Int) → Option (Int × Int) → Option (Int × Int)
  | some (p, q), some (r, s) => match c with
    | .lt u v => bif u.beq a && v.beq b then some (Z.min p r, Z.min q s) else bif u.beq b && v.beq a then some (Z.max p r, Z.max q s) else some (Z.min p r, Z.max q s)
    | _ => some (Z.min p r, Z.max q s)
  | _, _ => none
theorem hullI_ok {ρ : Env} {c a b : Tm} {x y : Option (Int × Int)} (ha : InR (a.den ρ) x) (hb : InR (b.den ρ) y) : InR ((Tm.ite c a b).den ρ) (hullI c a b x y) := by
  unfold hullI
  cases x with
  | none => trivial
  | some x =>
    cases y with
    | none => trivial
    | some y =>
      obtain ⟨p, q⟩ := x
      obtain ⟨r, s⟩ := y
      simp only [InR] at ha hb
      have any : InR ((Tm.ite c a b).den ρ) (some (Z.min p r, Z.max q s)) := by
        have := Z.min_le p r; have := Z.le_max q s
        simp only [Tm.den, InR]; split <;> omega
      have zmin : ∀ i j : Int, (Z.min i j = i ∨ Z.min i j = j) := by
        intro i j; unfold Z.min; cases Z.le i j <;> simp
      have zmax : ∀ i j : Int, (Z.max i j = i ∨ Z.max i j = j) := by
        intro i j; unfold Z.max; cases Z.le i j <;> simp
      dsimp only
      split
      · rename_i u v
        cases h1 : (u.beq a && v.beq b)
        · cases h2 : (u.beq b && v.beq a)
          · exact any
          · rw [Bool.and_eq_true] at h2
            have e1 := Tm.beq_eq h2.1
            have e2 := Tm.beq_eq h2.2
            subst e1; subst e2
            simp only [cond_true, cond_false, Tm.den, InR]
            have := Z.le_max p r; have := Z.le_max q s; have := zmax p r; have := zmax q s
            by_cases hlt : u.den ρ < v.den ρ
            · simp [hlt, b2i]; omega
            · simp [hlt, b2i]; omega
        · rw [Bool.and_eq_true] at h1
          have e1 := Tm.beq_eq h1.1
          have e2 := Tm.beq_eq h1.2
          subst e1; subst e2
          simp only [cond_true, Tm.den, InR]
          have := Z.min_le p r; have := Z.min_le q s; have := zmin p r; have := zmin q s
          by_cases hlt : u.den ρ < v.den ρ
          · simp [hlt, b2i]; omega
          · simp [hlt, b2i]; omega
      · exact any

/-- a range of a term -/
def rng (fc : Facts) : Tm → Option (Int × Int)
  | .lit z => some (z, z)
  | .var n => look fc (.var n) none
  | .add a b => look fc (.add a b) (match rng fc a, rng fc b with | some (p, q), some (r, s) => some (p + r, q + s) | _, _ => none)
  | .sub a b => look fc (.sub a b) (match rng fc a, rng fc b with | some (p, q), some (r, s) => some (p - s, q - r) | _, _ => none)
  | .mul a b => look fc (.mul a b) (match rng fc a, rng fc b with | some (p, q), some (r, s) => some (hull4 (p * r) (p * s) (q * r) (q * s)) | _, _ => none)
  | .quo a b => look fc (.quo a b) (match rng fc a, b with | some (p, q), .lit d => bif Z.le 1 d then some (tq p d, tq q d) else none | _, _ => none)
  | .rem a b => look fc (.rem a b) (match rng fc a, b with
      | some (p, q), .lit d => bif Z.le 1 d then (bif Z.le 0 p then some (0, Z.min q (d - 1)) else bif Z.le q 0 then some (Z.max p (1 - d), 0) else some (Z.max p (1 - d), Z.min q (d - 1))) else none
      | none, .lit d => bif Z.le 1 d then some (1 - d, d - 1) else none
      | _, _ => none)
  | .wrap k a => look fc (.wrap k a) (match rng fc a with | some (p, q) => bif inK k p q then some (p, q) else some (kLo k, kHi k) | none => some (kLo k, kHi k))
  | .eq a b => look fc (.eq a b) (match rng fc a, rng fc b with
      | some (p, q), some (r, s) => bif Z.le p s && Z.le r q then (bif Z.beq p q && Z.beq r s && Z.beq p r then some (1, 1) else some (0, 1)) else some (0, 0)
      | _, _ => bif a.beq b then some (1, 1) else some (0, 1))
  | .lt a b => look fc (.lt a b) (match rng fc a, rng fc b with
      | some (p, q), some (r, s) => bif Z.le s p then some (0, 0) else bif Z.le r q then some (0, 1) else some (1, 1)
      | _, _ => bif a.beq b then some (0, 0) else some (0, 1))
  | .not a => look fc (.not a) (match rng fc a with
      | some (p, q) => bif Z.le 1 p || Z.le q (-1) then some (0, 0) else bif Z.beq p 0 && Z.beq q 0 then some (1, 1) else some (0, 1)
      | none => some (0, 1))
  | .and a b => look fc (.and a b) (match rng fc a, rng fc b with
      | some (p, q), some (r, s) => bif (Z.beq p 0 && Z.beq q 0) || (Z.beq r 0 && Z.beq s 0) then some (0, 0) else bif (Z.le 1 p || Z.le q (-1)) && (Z.le 1 r || Z.le s (-1)) then some (1, 1) else some (0, 1)
      | some (p, q), none => bif (Z.beq p 0 && Z.beq q 0) then some (0, 0) else some (0, 1)
      | none, some (p, q) => bif (Z.beq p 0 && Z.beq q 0) then some (0, 0) else some (0, 1)
      | none, none => some (0, 1))
  | .or a b => look fc (.or a b) (match rng fc a, rng fc b with
      | some (p, q), some (r, s) => bif (Z.le 1 p || Z.le q (-1)) || (Z.le 1 r || Z.le s (-1)) then some (1, 1) else bif (Z.beq p 0 && Z.beq q 0) && (Z.beq r 0 && Z.beq s 0) then some (0, 0) else some (0, 1)
      | some (p, q), none => bif (Z.le 1 p || Z.le q (-1)) then some (1, 1) else some (0, 1)
      | none, some (p, q) => bif (Z.le 1 p || Z.le q (-1)) then some (1, 1) else some (0, 1)
      | none, none => some (0, 1))
  | .ite c a b => look fc (.ite c a b) (match rng fc c with
      | some (p, q) => bif Z.le 1 p || Z.le q (-1) then rng fc a else bif Z.beq p 0 && Z.beq q 0 then rng fc b else hullI c a b (rng fc a) (rng fc b)
      | none => hullI c a b (rng fc a) (rng fc b))

theorem mul_hull {x y p q r s : Int} (h1 : p ≤ x) (h2 : x ≤ q) (h3 : r ≤ y) (h4 : y ≤ s) :
    (hull4 (p * r) (p * s) (q * r) (q * s)).1 ≤ x * y ∧ x * y ≤ (hull4 (p * r) (p * s) (q * r) (q * s)).2 := by
  have a1 := Z.min_le (p * r) (p * s); have a2 := Z.min_le (q * r) (q * s)
  have a3 := Z.min_le (Z.min (p * r) (p * s)) (Z.min (q * r) (q * s))
  have b1 := Z.le_max (p * r) (p * s); have b2 := Z.le_max (q * r) (q * s)
  have b3 := Z.le_max (Z.max (p * r) (p * s)) (Z.max (q * r) (q * s))
  have key : ∀ u v : Int, u ≤ v → ∀ m : Int, ∀ t : Int, u ≤ t → t ≤ v → (m * u ≤ m * t ∧ m * t ≤ m * v) ∨ (m * v ≤ m * t ∧ m * t ≤ m * u) := by
    intro u v _ m t h h'
    rcases Int.le_total 0 m with hm | hm
    · exact .inl ⟨Int.mul_le_mul_of_nonneg_left h hm, Int.mul_le_mul_of_nonneg_left h' hm⟩
    · exact .inr ⟨Int.mul_le_mul_of_nonpos_left hm h', Int.mul_le_mul_of_nonpos_left hm h⟩
  have k1 := key r s (by omega) p y h3 h4
  have k2 := key r s (by omega) q y h3 h4
  have k3 := key p q (by omega) y x h1 h2
  rw [Int.mul_comm y p, Int.mul_comm y q, Int.mul_comm y x] at k3
  unfold hull4
  dsimp only
  constructor
  · rcases k3 with k3 | k3 <;> rcases k1 with k1 | k1 <;> rcases k2 with k2 | k2 <;> omega
  · rcases k3 with k3 | k3 <;> rcases k1 with k1 | k1 <;> rcases k2 with k2 | k2 <;> omega

theorem tdiv_mono {x y d : Int} (hd : 1 ≤ d) (h : x ≤ y) : x.tdiv d ≤ y.tdiv d := by
  rcases Int.le_total 0 x with hx | hx
  · rw [Int.tdiv_eq_ediv_of_nonneg hx, Int.tdiv_eq_ediv_of_nonneg (by omega)]
    exact Int.ediv_le_ediv (by omega) h
  · rcases Int.le_total 0 y with hy | hy
    · have h1 : x.tdiv d ≤ 0 := by
        have : x = -(-x) := by omega
        rw [this, Int.neg_tdiv]
        have := Int.tdiv_nonneg (a := -x) (b := d) (by omega) (by omega)
        omega
      have h2 := Int.tdiv_nonneg (a := y) (b := d) hy (by omega)
      omega
    · have e1 : x.tdiv d = -((-x).tdiv d) := by
        conv => lhs; rw [show x = -(-x) by omega]
        rw [Int.neg_tdiv]
      have e2 : y.tdiv d = -((-y).tdiv d) := by
        conv => lhs; rw [show y = -(-y) by omega]
        rw [Int.neg_tdiv]
      rw [e1, e2, Int.tdiv_eq_ediv_of_nonneg (by omega), Int.tdiv_eq_ediv_of_nonneg (by omega)]
      have := Int.ediv_le_ediv (c := d) (by omega) (show -y ≤ -x by omega)
      omega

theorem tmod_bounds (x d : Int) (hd : 1 ≤ d) : 1 - d ≤ x.tmod d ∧ x.tmod d ≤ d - 1 ∧ (0 ≤ x → 0 ≤ x.tmod d ∧ x.tmod d ≤ x) ∧ (x ≤ 0 → x.tmod d ≤ 0 ∧ x ≤ x.tmod d) := by
  rcases Int.le_total 0 x with hx | hx
  · have h1 : x.tmod d = x % d := Int.tmod_eq_emod_of_nonneg hx
    have h2 := Int.emod_nonneg x (show d ≠ 0 by omega)
    have h3 := Int.emod_lt_of_pos x (show 0 < d by omega)
    have h4 : x % d ≤ x := by
      have := Int.mul_ediv_add_emod x d
      have h5 : 0 ≤ d * (x / d) := Int.mul_nonneg (by omega) (Int.ediv_nonneg hx (by omega))
      omega
    rw [h1]; refine ⟨by omega, by omega, fun _ => ⟨h2, h4⟩, fun h => ?_⟩
    have : x = 0 := by omega
    subst this; simp
  · have e : x.tmod d = -((-x).tmod d) := by
      conv => lhs; rw [show x = -(-x) by omega]
      rw [Int.neg_tmod]
    have h1 : (-x).tmod d = (-x) % d := Int.tmod_eq_emod_of_nonneg (by omega)
    have h2 := Int.emod_nonneg (-x) (show d ≠ 0 by omega)
    have h3 := Int.emod_lt_of_pos (-x) (show 0 < d by omega)
    have h4 : (-x) % d ≤ -x := by
      have := Int.mul_ediv_add_emod (-x) d
      have h5 : 0 ≤ d * ((-x) / d) := Int.mul_nonneg (by omega) (Int.ediv_nonneg (by omega) (by omega))
      omega
    rw [e, h1]; refine ⟨by omega, by omega, fun h => ?_, fun _ => ⟨by omega, by omega⟩⟩
    have : x = 0 := by omega
    subst this; simp

theorem bool_range (b : Bool) : 0 ≤ b2i b ∧ b2i b ≤ 1 := by cases b <;> simp [b2i]

theorem rng_sound {ρ : Env} {fc : Facts} (h : FactsOk ρ fc) : ∀ t : Tm, InR (t.den ρ) (rng fc t) := by
  have nz : ∀ {z p q : Int}, p ≤ z → z ≤ q → (Z.le 1 p || Z.le q (-1)) = true → z ≠ 0 := by
    intro z p q h1 h2 h3; simp [Z.le_iff] at h3; omega
  have zz : ∀ {z p q : Int}, p ≤ z → z ≤ q → (Z.beq p 0 && Z.beq q 0) = true → z = 0 := by
    intro z p q h1 h2 h3; simp [Z.beq_iff] at h3; omega
  intro t
  induction t with
  | lit z => exact ⟨Int.le_refl _, Int.le_refl _⟩
  | var n => exact look_sound _ _ _ h trivial
  | add a b ia ib =>
    refine look_sound _ _ _ h ?_
    cases ha : rng fc a <;> cases hb : rng fc b <;> simp only [ha, hb, InR] at ia ib ⊢
    simp only [Tm.den]; omega
  | sub a b ia ib =>
    refine look_sound _ _ _ h ?_
    cases ha : rng fc a <;> cases hb : rng fc b <;> simp only [ha, hb, InR] at ia ib ⊢
    simp only [Tm.den]; omega
  | mul a b ia ib =>
    refine look_sound _ _ _ h ?_
    cases ha : rng fc a <;> cases hb : rng fc b <;> simp only [ha, hb, InR] at ia ib ⊢
    exact mul_hull ia.1 ia.2 ib.1 ib.2
  | quo a b ia ib =>
    refine look_sound _ _ _ h ?_
    cases ha : rng fc a <;> cases b <;> simp only [ha, InR] at ia ⊢
    rename_i d
    cases hd : Z.le 1 d
    · trivial
    · have hd' := (Z.le_iff 1 d).1 hd
      exact ⟨tdiv_mono hd' ia.1, tdiv_mono hd' ia.2⟩
  | rem a b ia ib =>
    refine look_sound _ _ _ h ?_
    cases b with
    | lit d =>
      cases hd : Z.le 1 d
      · cases ha : rng fc a <;> simp only [hd] <;> trivial
      · have hd' := (Z.le_iff 1 d).1 hd
        obtain ⟨h1, h2, h3, h4⟩ := tmod_bounds (a.den ρ) d hd'
        cases ha : rng fc a with
        | none => simp only [hd]; exact ⟨h1, h2⟩
        | some p =>
          obtain ⟨p, q⟩ := p
          simp only [ha, InR] at ia
          simp only [hd, cond_true]
          cases hp : Z.le 0 p
          · cases hq : Z.le q 0
            · simp only [cond_false, InR, Tm.den, Z.max, Z.min]
              have := (Z.le_false _ _).1 hp; have := (Z.le_false _ _).1 hq
              cases hx : Z.le p (1 - d) <;> cases hy : Z.le q (d - 1) <;> simp only [cond_true, cond_false]
              all_goals (first | have := (Z.le_iff _ _).1 hx | have := (Z.le_false _ _).1 hx)
              all_goals (first | have := (Z.le_iff _ _).1 hy | have := (Z.le_false _ _).1 hy)
              all_goals (rcases Int.le_total 0 (a.den ρ) with h5 | h5)
              all_goals (first | have := h3 h5 | have := h4 h5)
              all_goals omega
            · have := (Z.le_iff _ _).1 hq
              have := h4 (by omega)
              simp only [cond_false, cond_true, InR, Tm.den, Z.max]
              cases hx : Z.le p (1 - d) <;> simp only [cond_true, cond_false] <;> omega
          · have := (Z.le_iff _ _).1 hp
            have := h3 (by omega)
            simp only [cond_true, InR, Tm.den, Z.min]
            cases hx : Z.le q (d - 1) <;> simp only [cond_true, cond_false] <;> omega
    | _ => cases ha : rng fc a <;> trivial
  | wrap k a ia =>
    refine look_sound _ _ _ h ?_
    have hw := wrap_range k (a.den ρ)
    cases ha : rng fc a with
    | none => exact hw
    | some p =>
      obtain ⟨p, q⟩ := p
      simp only [ha, InR] at ia
      cases hk : inK k p q
      · simp only [hk, cond_false, InR, Tm.den]; exact hw
      · simp only [hk, cond_true, InR, Tm.den]
        simp [inK, Z.le_iff] at hk
        rw [wrap_id k _ (by omega) (by omega)]; exact ia
  | eq a b ia ib =>
    refine look_sound _ _ _ h ?_
    have hr : (a.beq b) = true → (Tm.eq a b).den ρ = 1 := fun e => by rw [Tm.beq_eq e]; simp [b2i]
    have hb := bool_range (decide (a.den ρ = b.den ρ))
    cases ha : rng fc a <;> cases hb' : rng fc b <;> simp only [ha, hb', InR] at ia ib ⊢
    case some.some p q =>
      obtain ⟨p, q⟩ := p; rename_i r; obtain ⟨r, s⟩ := r
      simp only at ia ib ⊢
      cases h1 : (Z.le p s && Z.le r q)
      · simp only [cond_false, Tm.den]
        have : ¬ (a.den ρ = b.den ρ) := by
          intro e
          cases h2 : Z.le p s <;> cases h3 : Z.le r q <;> simp [h2, h3] at h1
          all_goals (first | have := (Z.le_false _ _).1 h2 | skip)
          all_goals (first | have := (Z.le_false _ _).1 h3 | skip)
          all_goals omega
        simp [this, b2i]
      · cases h2 : (Z.beq p q && Z.beq r s && Z.beq p r)
        · simp only [cond_true, cond_false, Tm.den]; exact hb
        · simp [Z.beq_iff] at h2
          have : a.den ρ = b.den ρ := by omega
          simp only [cond_true, Tm.den, this]; simp [b2i]
    all_goals
      cases h1 : a.beq b
      · simp only [cond_false, Tm.den]; exact hb
      · have := hr h1
        simp only [cond_true, this]; omega
  | lt a b ia ib =>
    refine look_sound _ _ _ h ?_
    have hr : (a.beq b) = true → (Tm.lt a b).den ρ = 0 := fun e => by rw [Tm.beq_eq e]; simp [b2i]
    have hb := bool_range (decide (a.den ρ < b.den ρ))
    cases ha : rng fc a <;> cases hb' : rng fc b <;> simp only [ha, hb', InR] at ia ib ⊢
    case some.some p q =>
      obtain ⟨p, q⟩ := p; rename_i r; obtain ⟨r, s⟩ := r
      simp only at ia ib ⊢
      cases h1 : Z.le s p
      · cases h2 : Z.le r q
        · have := (Z.le_false _ _).1 h2
          have : a.den ρ < b.den ρ := by omega
          simp only [cond_false, Tm.den]; simp [this, b2i]
        · simp only [cond_true, cond_false, Tm.den]; exact hb
      · have := (Z.le_iff _ _).1 h1
        have : ¬ a.den ρ < b.den ρ := by omega
        simp only [cond_true, Tm.den]; simp [this, b2i]
    all_goals
      cases h1 : a.beq b
      · simp only [cond_false, Tm.den]; exact hb
      · have := hr h1
        simp only [cond_true, this]; omega
  | not a ia =>
    refine look_sound _ _ _ h ?_
    have hb := bool_range (decide (a.den ρ = 0))
    cases ha : rng fc a with
    | none => exact hb
    | some p =>
      obtain ⟨p, q⟩ := p
      simp only [ha, InR] at ia
      cases h1 : (Z.le 1 p || Z.le q (-1))
      · cases h2 : (Z.beq p 0 && Z.beq q 0)
        · simp only [h1, h2, cond_false, InR]; exact hb
        · have := zz ia.1 ia.2 h2
          simp only [h1, h2, cond_false, cond_true, InR, Tm.den, this]; simp [b2i]
      · have := nz ia.1 ia.2 h1
        simp only [h1, cond_true, InR, Tm.den]; simp [this, b2i]
  | and a b ia ib =>
    refine look_sound _ _ _ h ?_
    have hb := bool_range (decide (a.den ρ ≠ 0) && decide (b.den ρ ≠ 0))
    cases ha : rng fc a <;> cases hb' : rng fc b <;> simp only [ha, hb', InR] at ia ib ⊢
    case none.none => exact hb
    case some.none p =>
      cases h1 : (Z.beq p.1 0 && Z.beq p.2 0)
      · exact hb
      · have := zz ia.1 ia.2 h1
        simp [this, b2i]
    case none.some p =>
      cases h1 : (Z.beq p.1 0 && Z.beq p.2 0)
      · exact hb
      · have := zz ib.1 ib.2 h1
        simp [this, b2i]
    case some.some p q =>
      cases h1 : ((Z.beq p.1 0 && Z.beq p.2 0) || (Z.beq q.1 0 && Z.beq q.2 0))
      · cases h2 : ((Z.le 1 p.1 || Z.le p.2 (-1)) && (Z.le 1 q.1 || Z.le q.2 (-1)))
        · exact hb
        · rw [Bool.and_eq_true] at h2
          have e1 := nz ia.1 ia.2 h2.1
          have e2 := nz ib.1 ib.2 h2.2
          simp [e1, e2, b2i]
      · rw [Bool.or_eq_true] at h1
        rcases h1 with h1 | h1
        · have := zz ia.1 ia.2 h1
          simp [this, b2i]
        · have := zz ib.1 ib.2 h1
          simp [this, b2i]
  | or a b ia ib =>
    refine look_sound _ _ _ h ?_
    have hb := bool_range (decide (a.den ρ ≠ 0) || decide (b.den ρ ≠ 0))
    cases ha : rng fc a <;> cases hb' : rng fc b <;> simp only [ha, hb', InR] at ia ib ⊢
    case none.none => exact hb
    case some.none p =>
      cases h1 : (Z.le 1 p.1 || Z.le p.2 (-1))
      · exact hb
      · have := nz ia.1 ia.2 h1
        simp [this, b2i]
    case none.some p =>
      cases h1 : (Z.le 1 p.1 || Z.le p.2 (-1))
      · exact hb
      · have := nz ib.1 ib.2 h1
        simp [this, b2i]
    case some.some p q =>
      cases h1 : ((Z.le 1 p.1 || Z.le p.2 (-1)) || (Z.le 1 q.1 || Z.le q.2 (-1)))
      · cases h2 : ((Z.beq p.1 0 && Z.beq p.2 0) && (Z.beq q.1 0 && Z.beq q.2 0))
        · exact hb
        · rw [Bool.and_eq_true] at h2
          have e1 := zz ia.1 ia.2 h2.1
          have e2 := zz ib.1 ib.2 h2.2
          simp [e1, e2, b2i]
      · rw [Bool.or_eq_true] at h1
        rcases h1 with h1 | h1
        · have := nz ia.1 ia.2 h1
          simp [this, b2i]
        · have := nz ib.1 ib.2 h1
          simp [this, b2i]
  | ite c a b ic ia ib =>
    refine look_sound _ _ _ h ?_
    have hh : InR ((Tm.ite c a b).den ρ) (hullI c a b (rng fc a) (rng fc b)) := hullI_ok ia ib
    cases hc : rng fc c with
    | none => exact hh
    | some p =>
      obtain ⟨p, q⟩ := p
      simp only [hc, InR] at ic
      simp only
      cases h1 : (Z.le 1 p || Z.le q (-1))
      · cases h2 : (Z.beq p 0 && Z.beq q 0)
        · exact hh
        · have := zz ic.1 ic.2 h2
          simp only [cond_false, cond_true, Tm.den, this, if_true]; exact ib
      · have := nz ic.1 ic.2 h1
        simp only [cond_true, Tm.den, if_neg this]; exact ia

/-- is a term true? -/
def tvR (r : Option (Int × Int)) : Option Bool :=
  match r with
  | some (p, q) => bif Z.le 1 p || Z.le q (-1) then some true else bif Z.beq p 0 && Z.beq q 0 then some false else none
  | none => none
def tv (fc : Facts) (t : Tm) : Option Bool :=
  match t with
  | .lit z => some (!(Z.beq z 0))
  | t => tvR (rng fc t)
theorem tv_sound {ρ : Env} {fc : Facts} (h : FactsOk ρ fc) {t : Tm} {b : Bool} (ht : tv fc t = some b) : (t.den ρ != 0) = b := by
  have key : tvR (rng fc t) = some b → (t.den ρ != 0) = b := by
    intro ht
    have := rng_sound h t
    unfold tvR at ht
    split at ht
    · rename_i p q hr
      rw [hr] at this
      simp only [InR] at this
      cases h1 : (Z.le 1 p || Z.le q (-1))
      · cases h2 : (Z.beq p 0 && Z.beq q 0) <;> simp [h1, h2] at ht
        subst ht; simp [Z.beq_iff] at h2; simp; omega
      · simp [h1] at ht; subst ht; simp [Z.le_iff] at h1; simp; omega
    · simp at ht
  cases t <;> first | exact key ht | skip
  rename_i z
  simp only [tv, Option.some.injEq] at ht
  subst ht
  cases h : Z.beq z 0
  · simp [(Z.beq_false _ _).1 h]
  · simp [(Z.beq_iff _ _).1 h]
/-- the number of a term, if it is known -/
def num (fc : Facts) (t : Tm) : Option Int :=
  match t with
  | .lit z => some z
  | t => match rng fc t with | some (p, q) => bif Z.beq p q then some p else none | none => none
theorem num_sound {ρ : Env} {fc : Facts} (h : FactsOk ρ fc) {t : Tm} {z : Int} (ht : num fc t = some z) : t.den ρ = z := by
  have key : (match rng fc t with | some (p, q) => bif Z.beq p q then some p else none | none => none) = some z → t.den ρ = z := by
    intro ht
    have := rng_sound h t
    split at ht
    · rename_i p q hr
      rw [hr] at this
      simp only [InR] at this
      cases h1 : Z.beq p q <;> simp [h1] at ht
      have := (Z.beq_iff _ _).1 h1
      omega
    · simp at ht
  cases t <;> first | exact key ht | skip
  simpa [num] using ht
end Go.Sx
