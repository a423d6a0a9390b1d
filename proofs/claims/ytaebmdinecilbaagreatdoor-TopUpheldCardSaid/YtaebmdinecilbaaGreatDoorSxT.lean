/- A part of a symbolic evaluator over the model and of the proof that it is right: 'SxT'. It holds for every program; no condition. -/
import Derived.Test.YtaebmdinecilbaaGreatDoorSxS
namespace Go.Sx

section
variable {P : Program} {ρ : Env} {st : St} {w : World}

/-! ## append(nil, make(..)...) -/
def isInt : TypeDesc → Bool
  | .int _ => true
  | _ => false
def doAppendZ (C : Ctx) (st : St) (sT xT : Nat) (s x : V) : OpR :=
  match C.ty.get sT, C.ty.get xT with
  | some i, some j => match i.und, i.el, isInt j.und, s, natNum st.fc x with
    | .slice _, some y, true, .nilSlice, some n => match C.ty.get y.ty with
      | some k => match k.zero with
        | some z => match z.cellsL with
          | some zl => bif Nat.beq zl.length y.size && Nat.ble 1 n && Nat.ble 1 y.size && Nat.ble (Nat.mul n k.bytes) 1000000000 && Nat.ble n 1000000000 then
              growCells st st.h y.size n (repL zl n) else .bad 270
          | none => .bad 271
        | none => .bad 272
      | none => .bad 273
    | _, _, _, _, _ => .bad 274
  | _, _ => .bad 275

theorem doAppendZ_ok {C : Ctx} (hC : C.Ok P) (hR : Real ρ st w) (sT xT rty : Nat) {s x : V} :
    VOk P ρ st w (Builtin.append_ #[sT, xT] rty #[s.den ρ, x.den ρ]) (doAppendZ C st sT xT s x) := by
  unfold doAppendZ
  split
  · rename_i i j hi hj
    have hT := hC.get hi
    have hJ := hC.get hj
    split
    · rename_i e' y n hu hy hstr hx
      obtain ⟨e, he, hf⟩ := hT.el y hy
      have hu' : i.und = .slice e := by
        rcases he with h | h
        · exact h
        · rw [hu] at h; simp at h
      obtain ⟨ey, _, _, ii, dd, q1, q2, q3, q4⟩ := mkFI_spec hf
      obtain ⟨kx, hkx⟩ := natNum_spec hR.fc hx
      split
      · rename_i k hk
        have hK := hC.get hk
        rw [ey] at hK
        obtain ⟨k1, k2, k3, k4, k5⟩ := hK.info
        rw [q1] at k2; simp at k2; subst k2
        split
        · rename_i z hz
          have hzz := (hK.run_zero w hz).2 ρ st.nx
          split
          · rename_i zl hzl
            obtain ⟨z1, z2, z3⟩ := V.cellsL_spec hzl
            cases hb : (Nat.beq zl.length y.size && Nat.ble 1 n && Nat.ble 1 y.size && Nat.ble (Nat.mul n k.bytes) 1000000000 && Nat.ble n 1000000000)
            · trivial
            simp only [Bool.and_eq_true] at hb
            obtain ⟨⟨⟨⟨b1, b2⟩, b3⟩, b4⟩, b5⟩ := hb
            have b1 := Nat.eq_of_beq_eq_true b1
            have b2 := Nat.le_of_ble_eq_true b2
            have b3 := Nat.le_of_ble_eq_true b3
            have b4 : n * k.bytes ≤ 1000000000 := Nat.le_of_ble_eq_true b4
            have b5 := Nat.le_of_ble_eq_true b5
            have hz0 : ii.zero = some (z.den ρ) := by
              cases hzz : ii.zero with
              | none => rw [hzz] at k5; simp [hz] at k5
              | some u => rw [hzz, Option.bind_some, hz] at k5; rw [ofVal_den k5]
            have hzc : ∀ m, (Builtin.zeroCells (z.den ρ).cells m).size = m * ii.size := by
              intro m; rw [zc_size, z3 ρ]; simp [V.denL_eq, b1, q3]
            have hzr : Builtin.zeroCells (z.den ρ).cells n = (V.denL ρ (repL zl n)).toArray := by rw [z3 ρ]; exact zeros_eq (n := n) (by simp [V.denL_eq])
            have hcap := grownCap_bounds w (need := n) (old := 0) e b5
            have hjd : ∃ kj, j.und = .int kj := by cases hd : j.und <;> simp [hd, isInt] at hstr ⊢
            obtain ⟨kj, hjd⟩ := hjd
            have hrun : (Builtin.append_ #[sT, xT] rty #[V.nilSlice.den ρ, x.den ρ]).run P w =
                .ok (.slice (some ⟨w.heap.size, 0, none⟩) n (grownCap w n 0 e))
                  (w.drew.alloc (.cells (Builtin.zeroCells (z.den ρ).cells n ++ Builtin.zeroCells (z.den ρ).cells (grownCap w n 0 e - n)) e)) := by
              have ht : P.underlying sT = some (.slice e) := by rw [hT.und, hu']
              have hxu : P.underlying xT = some (.int kj) := by rw [hJ.und, hjd]
              have hfit' := growslice_fits (need := n) (old := 0) (bytes := ii.bytes) (by omega) (by rw [k4]; omega)
              have h48' : ¬ (281474976710656 < Builtin.nextslicecap n 0 * ii.bytes) := by omega
              have hw := i64_wrap_nat
              have hwn : IntKind.i64.wrap (n : Int) = n := wrap_id .i64 _ (by simp only [kLo]; omega) (by simp only [kHi]; omega)
              have hn0 : ¬ ((n : Int) < 0) := by omega
              have hmul : ¬ ((n : Int) * ii.bytes > 2 ^ 48) := by
                rw [k4]
                have : ((n * k.bytes : Nat) : Int) ≤ ((1000000000 : Nat) : Int) := Int.ofNat_le.2 b4
                rw [Int.natCast_mul] at this
                omega
              have hmul' : ¬ (281474976710656 < (n : Int) * ii.bytes) := by simpa using hmul
              have hle : ¬ (n ≤ 0) := by omega
              have hgt : ¬ (9223372036854775807 < (n : Int)) := by omega
              have hns : ¬ (n * ii.size = 0) := by
                rw [Nat.mul_eq_zero]; omega
              have hns' : ¬ (n = 0 ∨ ii.size = 0) := by omega
              have hn00 : n ≠ 0 := by omega
              have hs00 : ii.size ≠ 0 := by omega
              rw [hkx]
              simp [Builtin.append_, V.den, run_underlying ht, run_underlying hxu, sizeOf, typeInfo, zeroValue, q1, hz0, asInt, asIntOf, hwn, hmul', hn00, hgt, h48', Question.forced, newRow, grownCap, Builtin.firstCells]
              rw [if_neg hn0, if_neg hns]
            have hfits : ∃ st', growCells st st.h ii.size n (repL zl n) = _ ∧ _ := grow_step (w := w.drew) (size := ii.size) (need := n) (cap := grownCap w n 0 e) (l := repL zl n) (ty := e) (hR.heap rfl) (repL_wf (z2 _ hzz.1) n) hcap.1 hcap.2
              (arr := (Builtin.zeroCells (z.den ρ).cells n ++ Builtin.zeroCells (z.den ρ).cells (grownCap w n 0 e - n))) (by
                intro i v hi
                have hlt : i < (repL zl n).length := (List.getElem?_eq_some_iff.1 hi).1
                rw [hzr, Array.getElem?_append_left (by simpa [V.denL_eq] using hlt)]
                simp [V.denL_eq, hi]) (by
                simp only [Array.size_append, hzc]
                rw [← Nat.add_mul]; congr 1; omega) (by
                rw [hzr]; simp [V.denL_eq])
            obtain ⟨st', e1, e2, e3, e4⟩ := hfits
            simp only [cond_true]
            rw [← q3, e1]
            exact ⟨_, _, (Step.draw hR).trans e2, e3, by rw [e4]; exact hrun⟩
          · trivial
        · trivial
      · trivial
    · trivial
  · trivial
end
end Go.Sx
