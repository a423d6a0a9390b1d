/- A part of a symbolic evaluator over the model and of the proof that it is right: 'SxTb'. It holds for every program; no condition. -/
import Derived.Test.YtaebmdinecilbaaGreatDoorSxX
namespace Go.Sx

/-! ## Tables that are written out -/
def Tr.All {α : Type} : Tr α → (Nat → α → Prop) → Prop
  | .e, _ => True
  | .n v l r, p => (match v with | some a => p 0 a | none => True) ∧ l.All (fun j => p (2 * j + 1)) ∧ r.All (fun j => p (2 * j + 2))
theorem Tr.all_get {α : Type} : ∀ {t : Tr α} {p : Nat → α → Prop} {k : Nat} {a : α}, t.All p → t.get k = some a → p k a
  | .e, _, _, _, _, h => by simp [Tr.get] at h
  | .n v l r, p, k, a, h, hk => by
    obtain ⟨h1, h2, h3⟩ := h
    simp only [Tr.get] at hk
    cases h0 : Nat.beq k 0 <;> simp only [h0, cond_true, cond_false] at hk
    · have hk0 : k ≠ 0 := by intro e; subst e; simp at h0
      cases hp : lf k <;> simp only [hp, cond_true, cond_false] at hk
      · have := Tr.all_get h3 hk
        have e : 2 * hf k + 2 = k := by
          unfold lf at hp
          have h' : Nat.beq ((k - 1) % 2) 0 = false := hp
          have : (k - 1) % 2 ≠ 0 := by intro e; rw [e] at h'; simp at h'
          show 2 * ((k - 1) / 2) + 2 = k
          omega
        rw [e] at this; exact this
      · have := Tr.all_get h2 hk
        have e : 2 * hf k + 1 = k := by
          unfold lf at hp
          have h' : Nat.beq ((k - 1) % 2) 0 = true := hp
          have := Nat.eq_of_beq_eq_true h'
          show 2 * ((k - 1) / 2) + 1 = k
          omega
        rw [e] at this; exact this
    · have := beq0 h0
      subst this
      subst hk
      exact h1
theorem FnOk.of {P : Program} {f : Nat} {x : FnI} {fn : Func} (h1 : P.funcs[f]? = some fn) (h2 : fn.body = some x.code) (h3 : (fn.name == "runtime.NumGoroutine") = false) (h4 : fn.ntmps = x.ntmps) (h5 : fn.results.toList = x.results) : FnOk P f x :=
  ⟨fn, h1, h2, h3, h4, h5⟩
def bodyOf (f : Func) : Code := match f.body with | some c => c | none => .ret
end Go.Sx
