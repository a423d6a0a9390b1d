/- A part of a symbolic evaluator over the model and of the proof that it is right: 'SxA'. It holds for every program; no condition. -/
import Derived.Calls
import Derived.KernelRfl
namespace Go.Sx

/-! ## Tries keyed by numbers -/
inductive Tr (α : Type) where
  | e
  | n (v : Option α) (l r : Tr α)

def lf (k : Nat) : Bool := Nat.beq (Nat.mod (Nat.sub k 1) 2) 0
def hf (k : Nat) : Nat := Nat.div (Nat.sub k 1) 2

theorem hf_inj {j k : Nat} (h0 : Nat.beq j 0 = false) (h1 : Nat.beq k 0 = false) (h : lf j = lf k) (h2 : hf j = hf k) : j = k := by
  have a : j ≠ 0 := by intro e; subst e; simp at h0
  have b : k ≠ 0 := by intro e; subst e; simp at h1
  have c : (Nat.beq ((j - 1) % 2) 0) = (Nat.beq ((k - 1) % 2) 0) := h
  have d : (j - 1) / 2 = (k - 1) / 2 := h2
  have e : (j - 1) % 2 = 0 ↔ (k - 1) % 2 = 0 := by
    constructor <;> intro e
    · rw [e] at c; exact Nat.eq_of_beq_eq_true c.symm
    · rw [e] at c; exact Nat.eq_of_beq_eq_true c
  omega

def Tr.get {α : Type} : Tr α → Nat → Option α
  | .e, _ => none
  | .n v l r, k => bif Nat.beq k 0 then v else bif lf k then l.get (hf k) else r.get (hf k)

/-- the fuel bounds the depth: keys below 2^fuel - 1 -/
def Tr.setF {α : Type} : Nat → Tr α → Nat → Option α → Tr α
  | 0, _, _, _ => .e
  | f + 1, .e, k, a => bif Nat.beq k 0 then .n a .e .e else bif lf k then .n none (setF f .e (hf k) a) .e else .n none .e (setF f .e (hf k) a)
  | f + 1, .n v l r, k, a => bif Nat.beq k 0 then .n a l r else bif lf k then .n v (setF f l (hf k) a) r else .n v l (setF f r (hf k) a)
def Tr.set {α : Type} (t : Tr α) (k : Nat) (a : α) : Tr α := setF 24 t k (some a)
def Tr.del {α : Type} (t : Tr α) (k : Nat) : Tr α := setF 24 t k none

theorem beq0 {j : Nat} (h : Nat.beq j 0 = true) : j = 0 := Nat.eq_of_beq_eq_true h

theorem Tr.get_setF {α : Type} : ∀ (f : Nat) (t : Tr α) (k : Nat) (a : Option α) (j : Nat) (b : α), (setF f t k a).get j = some b →
    (j = k ∧ a = some b) ∨ (j ≠ k ∧ t.get j = some b)
  | 0, t, k, a, j, b, h => by simp [setF, get] at h
  | f + 1, t, k, a, j, b, h => by
    have ih := @get_setF α f
    have go : ∀ (l : Tr α), (setF f l (hf k) a).get (hf j) = some b → Nat.beq j 0 = false → Nat.beq k 0 = false → lf j = lf k → (j = k ∧ a = some b) ∨ (j ≠ k ∧ l.get (hf j) = some b) := by
      intro l h h0 h1 h2
      rcases ih _ _ _ _ _ h with ⟨h3, h4⟩ | ⟨h3, h4⟩
      · exact .inl ⟨hf_inj h0 h1 h2 h3, h4⟩
      · exact .inr ⟨fun e => h3 (by rw [e]), h4⟩
    have ne : Nat.beq j 0 ≠ Nat.beq k 0 ∨ lf j ≠ lf k → j ≠ k := by
      rintro (h | h) e <;> (subst e; exact h rfl)
    cases t with
    | e =>
      simp only [setF] at h
      cases hk : Nat.beq k 0 <;> cases hp : lf k <;> cases hj : Nat.beq j 0 <;> cases hq : lf j <;> simp [hk, hp, get, hj, hq] at h
      · rcases go _ h hj hk (by rw [hp, hq]) with x | ⟨_, x⟩
        · exact .inl x
        · simp [get] at x
      · rcases go _ h hj hk (by rw [hp, hq]) with x | ⟨_, x⟩
        · exact .inl x
        · simp [get] at x
      all_goals exact .inl ⟨by rw [beq0 hj, beq0 hk], h⟩
    | n v l r =>
      simp only [setF] at h
      cases hk : Nat.beq k 0 <;> cases hp : lf k <;> cases hj : Nat.beq j 0 <;> cases hq : lf j <;> simp [hk, hp, get, hj, hq] at h ⊢
      all_goals first
        | exact go _ h hj hk (by rw [hp, hq])
        | exact .inr ⟨ne (by simp [hk, hp, hj, hq]), h⟩
        | exact .inl ⟨by rw [beq0 hj, beq0 hk], h⟩

theorem Tr.get_set {α : Type} {t : Tr α} {k j : Nat} {a b : α} (h : (t.set k a).get j = some b) : (j = k ∧ a = b) ∨ (j ≠ k ∧ t.get j = some b) := by
  rcases get_setF _ _ _ _ _ _ h with ⟨h1, h2⟩ | h
  · exact .inl ⟨h1, by simpa using h2⟩
  · exact .inr h
theorem Tr.get_del {α : Type} {t : Tr α} {k j : Nat} {b : α} (h : (t.del k).get j = some b) : j ≠ k ∧ t.get j = some b := by
  rcases get_setF _ _ _ _ _ _ h with ⟨h1, h2⟩ | h
  · simp at h2
  · exact h
end Go.Sx
