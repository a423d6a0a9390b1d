/- The law TopUpheld comes to true at every input: the evaluator's run, for each code and each side (the points and how late the sheet is are any); no condition. -/
import Derived.Test.YtaebmdinecilbaaGreatDoorUc00
import Derived.Test.YtaebmdinecilbaaGreatDoorUc01
import Derived.Test.YtaebmdinecilbaaGreatDoorUc10
import Derived.Test.YtaebmdinecilbaaGreatDoorUc11
import Derived.Test.YtaebmdinecilbaaGreatDoorUc20
import Derived.Test.YtaebmdinecilbaaGreatDoorUc21
import Derived.Test.YtaebmdinecilbaaGreatDoorUc30
import Derived.Test.YtaebmdinecilbaaGreatDoorUc31
namespace Go.Proofs.YtaebmdinecilbaaGreatDoor
open Go.Sx
set_option maxRecDepth 1000000
def upEnv (a b p0 p1 l : Int) : Env :=
  { i := fun n => match n with | 0 => a | 1 => b | 2 => p0 | 3 => p1 | _ => l, b := fun _ => 0, o := fun _ => 0, v := fun _ => .nilIface }
theorem up_calls {a b p0 p1 l : Int} (ha : 0 ≤ a ∧ a ≤ 255) (hb : 0 ≤ b ∧ b ≤ 255) (hp0 : 0 ≤ p0 ∧ p0 ≤ 255) (hp1 : 0 ≤ p1 ∧ p1 ≤ 255) (hl : 0 ≤ l ∧ l ≤ 255) (W : World) :
    Calls Tryz.prog 3 #[.int .u8 a, .int .u8 b, .agg #[.int .u8 p0, .int .u8 p1], .int .u8 l] W fun e W' => e = .returned (.bool true) ∧ RowKit.Below W.heap.size W W' := by
  have h4 := tmod_bounds a 4 (by omega)
  have h2 := tmod_bounds b 2 (by omega)
  have hrun : (ev CU 1000000 (.call .normal 3 upArgs) (upSt (a.tmod 4) (b.tmod 2))).all (retAll isTrue) = true := by
    have e4 : a.tmod 4 = 0 ∨ a.tmod 4 = 1 ∨ a.tmod 4 = 2 ∨ a.tmod 4 = 3 := by have := h4.2.2.1 ha.1; omega
    have e2 : b.tmod 2 = 0 ∨ b.tmod 2 = 1 := by have := h2.2.2.1 hb.1; omega
    rcases e4 with e4 | e4 | e4 | e4 <;> rcases e2 with e2 | e2 <;> rw [e4, e2]
    · exact up00
    · exact up01
    · exact up10
    · exact up11
    · exact up20
    · exact up21
    · exact up30
    · exact up31
  have hR : Real (upEnv a b p0 p1 l) (upSt (a.tmod 4) (b.tmod 2)) W := by
    refine ⟨fun id o h => by simp [upSt, Tr.get] at h, fun id id' o o' h => by simp [upSt, Tr.get] at h, fun f hf => ?_, fun f hf => ?_⟩
    · simp only [upSt, List.mem_cons, List.not_mem_nil, or_false] at hf
      rcases hf with rfl | rfl | rfl | rfl | rfl | rfl | rfl <;> simp only [Tm.den, upEnv] <;> first | assumption | omega
    · simp only [upSt, List.mem_cons, List.not_mem_nil, or_false] at hf
      rcases hf with rfl | rfl | rfl | rfl | rfl | rfl | rfl <;> simp [Tm.wf, upSt]
  have hw : V.wfL (upSt (a.tmod 4) (b.tmod 2)).nx upArgs := by simp [upArgs, V.wfL, V.wf, Tm.wf, upSt]
  have hden : (V.denL (upEnv a b p0 p1 l) upArgs).toArray = #[.int .u8 a, .int .u8 b, .agg #[.int .u8 p0, .int .u8 p1], .int .u8 l] := by
    simp [upArgs, V.denL, V.den, Tm.den, upEnv]
  have := calls_of_ev (ctxOk _) mixed (ctxPl _) sumsU hR hw hrun
  rw [hden] at this
  refine Calls.mono this ?_
  rintro e w' ⟨v, ρ', st', rfl, hs, hv, hp⟩
  refine ⟨by rw [isTrue_spec hs.real hp], hs.below (Nat.le_refl _) ?_⟩
  rintro k _ ⟨id, o, ho, _⟩
  simp [upSt, Tr.get] at ho
end Go.Proofs.YtaebmdinecilbaaGreatDoor
