/- The law TopRanked comes to true at every input: the evaluator's run, for each code and each side (the points, the indexes, the grades and whether the match was level are any); no condition. -/
import Derived.Test.YtaebmdinecilbaaGreatRc00
import Derived.Test.YtaebmdinecilbaaGreatRc01
import Derived.Test.YtaebmdinecilbaaGreatRc10
import Derived.Test.YtaebmdinecilbaaGreatRc11
import Derived.Test.YtaebmdinecilbaaGreatRc20
import Derived.Test.YtaebmdinecilbaaGreatRc21
import Derived.Test.YtaebmdinecilbaaGreatRc30
import Derived.Test.YtaebmdinecilbaaGreatRc31
namespace Go.Proofs.YtaebmdinecilbaaGreat
open Go.Sx
set_option maxRecDepth 1000000
theorem sumsR : SumsOk Tryz.prog CR := sums1 sGain (sums1 sMove (sums1 s10 sums0))

def rankEnv (a b p0 p1 i0 i1 g0 g1 : Int) (l : Bool) : Env :=
  { i := fun n => match n with | 0 => a | 1 => b | 2 => p0 | 3 => p1 | 4 => i0 | 5 => i1 | 6 => g0 | 7 => g1 | _ => b2i l, b := fun _ => 0, o := fun _ => 0, v := fun _ => .nilIface }
theorem rank_calls {a b p0 p1 i0 i1 g0 g1 : Int} {l : Bool} (ha : 0 ≤ a ∧ a ≤ 255) (hb : 0 ≤ b ∧ b ≤ 255) (hp0 : 0 ≤ p0 ∧ p0 ≤ 255) (hp1 : 0 ≤ p1 ∧ p1 ≤ 255) (hi0 : -32768 ≤ i0 ∧ i0 ≤ 32767) (hi1 : -32768 ≤ i1 ∧ i1 ≤ 32767)
    (hg0 : 0 ≤ g0 ∧ g0 ≤ 255) (hg1 : 0 ≤ g1 ∧ g1 ≤ 255) (W : World) :
    Calls Tryz.prog 3 #[.int .u8 a, .int .u8 b, .agg #[.int .u8 p0, .int .u8 p1], .agg #[.int .i16 i0, .int .i16 i1], .agg #[.int .u8 g0, .int .u8 g1], .bool l] W fun e W' => e = .returned (.bool true) ∧ RowKit.Below W.heap.size W W' := by
  have h4 := tmod_bounds a 4 (by omega)
  have h2 := tmod_bounds b 2 (by omega)
  have hrun : (ev CR 1000000 (.call .normal 3 rankArgs) (rankSt (a.tmod 4) (b.tmod 2))).all (retAll isTrue) = true := by
    have e4 : a.tmod 4 = 0 ∨ a.tmod 4 = 1 ∨ a.tmod 4 = 2 ∨ a.tmod 4 = 3 := by have := h4.2.2.1 ha.1; omega
    have e2 : b.tmod 2 = 0 ∨ b.tmod 2 = 1 := by have := h2.2.2.1 hb.1; omega
    rcases e4 with e4 | e4 | e4 | e4 <;> rcases e2 with e2 | e2 <;> rw [e4, e2]
    · exact rank00
    · exact rank01
    · exact rank10
    · exact rank11
    · exact rank20
    · exact rank21
    · exact rank30
    · exact rank31
  have hbl := bool_range l
  have hR : Real (rankEnv a b p0 p1 i0 i1 g0 g1 l) (rankSt (a.tmod 4) (b.tmod 2)) W := by
    refine ⟨fun id o h => by simp [rankSt, Tr.get] at h, fun id id' o o' h => by simp [rankSt, Tr.get] at h, fun f hf => ?_, fun f hf => ?_⟩
    · simp only [rankSt, List.mem_cons, List.not_mem_nil, or_false] at hf
      rcases hf with rfl | rfl | rfl | rfl | rfl | rfl | rfl | rfl | rfl | rfl | rfl <;> simp only [Tm.den, rankEnv] <;> first | assumption | omega
    · simp only [rankSt, List.mem_cons, List.not_mem_nil, or_false] at hf
      rcases hf with rfl | rfl | rfl | rfl | rfl | rfl | rfl | rfl | rfl | rfl | rfl <;> simp [Tm.wf, rankSt]
  have hw : V.wfL (rankSt (a.tmod 4) (b.tmod 2)).nx rankArgs := by simp [rankArgs, V.wfL, V.wf, Tm.wf, rankSt]
  have hden : (V.denL (rankEnv a b p0 p1 i0 i1 g0 g1 l) rankArgs).toArray = #[.int .u8 a, .int .u8 b, .agg #[.int .u8 p0, .int .u8 p1], .agg #[.int .i16 i0, .int .i16 i1], .agg #[.int .u8 g0, .int .u8 g1], .bool l] := by
    simp [rankArgs, V.denL, V.den, Tm.den, rankEnv, b2i_ne]
  have := calls_of_ev (ctxOk _) mixed (ctxPl _) sumsR hR hw hrun
  rw [hden] at this
  refine Calls.mono this ?_
  rintro e w' ⟨v, ρ', st', rfl, hs, hv, hp⟩
  refine ⟨by rw [isTrue_spec hs.real hp], hs.below (Nat.le_refl _) ?_⟩
  rintro k _ ⟨id, o, ho, _⟩
  simp [rankSt, Tr.get] at ho
end Go.Proofs.YtaebmdinecilbaaGreat
