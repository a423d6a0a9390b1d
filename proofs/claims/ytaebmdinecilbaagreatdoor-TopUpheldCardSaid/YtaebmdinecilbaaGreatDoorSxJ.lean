/- A part of a symbolic evaluator over the model and of the proof that it is right: 'SxJ'. It holds for every program; no condition. -/
import Derived.Test.YtaebmdinecilbaaGreatDoorSxI
namespace Go.Sx

section
variable {P : Program} {ρ : Env} {st : St} {w : World}

/-! ## Small operations -/
def doExtract (st : St) (x : V) (k : Nat) : OpR :=
  match x with
  | .tuple l => match dropN k l with
    | v :: _ => .val v st
    | [] => .bad 60
  | _ => .bad 61
theorem doExtract_ok (hR : Real ρ st w) {x : V} (hx : x.wf st.nx) (k : Nat) : VOk P ρ st w (Instr.extract (x.den ρ) k) (doExtract st x k) := by
  unfold doExtract
  split
  · rename_i l
    rw [dropN_eq]
    split
    · rename_i v r hv
      have hi : l[k]? = some v := by
        have := congrArg (fun l => l[0]?) hv
        simpa using this
      refine VOk.same hR ((V.wfL_iff _ _).1 hx v (mem_of_getElem? hi)) ?_
      have : (V.denL ρ l).toArray[k]? = some (v.den ρ) := by simp [V.denL_eq, hi]
      simp only [Instr.extract, V.den, this, Sem.run_pure]
    · trivial
  · trivial

def doUn (st : St) (op : UnOp) (x : V) : OpR :=
  match op, x with
  | .neg, .int k t => .val (.int k (mkWrap st.fc k (mkSub (.lit 0) t))) st
  | .not, .bool t => .val (.bool (mkNot t)) st
  | _, _ => .bad 62
theorem doUn_ok (hR : Real ρ st w) (op : UnOp) {x : V} (hx : x.wf st.nx) : VOk P ρ st w (Op.unary op (x.den ρ)) (doUn st op x) := by
  unfold doUn
  split
  · rename_i k t
    refine VOk.same hR (v := .int k _) (mkWrap_wf (mkSub_wf trivial hx)) ?_
    simp only [V.den, Op.unary, Op.intArith, Sem.run_pure, mkWrap_den hR.fc, mkSub_den, Tm.den]
  · rename_i t
    refine VOk.same hR (v := .bool _) (mkNot_wf hx) ?_
    simp only [V.den, Op.unary, Sem.run_pure, mkNot_den, b2i_ne]
    by_cases h : t.den ρ = 0 <;> simp [h]
  · trivial

def doMakeInterface (C : Ctx) (st : St) (ty : Nat) (x : V) : OpR :=
  match C.ty.get ty with
  | some i => match i.und with
    | .interface _ => .bad 63
    | _ => .val (.iface ty x) st
  | none => .bad 64
theorem doMakeInterface_ok {C : Ctx} (hC : C.Ok P) (hR : Real ρ st w) (ty : Nat) {x : V} (hx : x.wf st.nx) : VOk P ρ st w (Instr.makeInterface ty (x.den ρ)) (doMakeInterface C st ty x) := by
  unfold doMakeInterface
  split
  · rename_i i hi
    have hT := hC.get hi
    split
    · trivial
    · rename_i hu
      refine VOk.same hR (v := .iface ty x) hx ?_
      simp only [Instr.makeInterface, Sem.run_bind, hT.run_und, Result.andThen_ok]
      rfl
  · trivial

def doMakeFunc (st : St) (f : Fn) (first caps : List V) : OpR :=
  match f with
  | .yield _ => .bad 65
  | f => .val (.func (.fn f) first caps) st
theorem doMakeFunc_ok (hR : Real ρ st w) (f : Fn) {first caps : List V} (h1 : V.wfL st.nx first) (h2 : V.wfL st.nx caps) :
    VOk P ρ st w (Instr.makeFunc f (V.denL ρ first).toArray (V.denL ρ caps).toArray) (doMakeFunc st f first caps) := by
  unfold doMakeFunc
  split
  · trivial
  · rename_i hf
    refine VOk.same hR (v := .func (.fn f) first caps) ⟨?_, h1, h2⟩ rfl
    cases f <;> first | trivial | exact absurd rfl (hf _)

def doMakeMap (st : St) (r : Option V) : OpR :=
  match r with
  | none => .val (.map st.nx) { st with h := st.h.set st.nx (.map [] 0), nx := st.nx + 1 }
  | some _ => .bad 66
theorem doMakeMap_ok (hR : Real ρ st w) (ty : Nat) (r : Option V) : VOk P ρ st w (Instr.makeMap ty (r.map (V.den ρ))) (doMakeMap st r) := by
  unfold doMakeMap
  split
  · refine ⟨_, _, Step.alloc hR (o := .map [] 0) (obj := .map #[] 0) ⟨rfl, rfl⟩ (by intro e he; simp at he), Nat.lt_succ_self _, ?_⟩
    simp only [Instr.makeMap, Option.map_none, Sem.run_bind, run_newObj, Result.andThen_ok, Sem.run_pure]
    simp only [V.den, Env.setB, if_true]
    rfl
  · trivial

def doPick (st : St) (c a b : V) : OpR :=
  match c with
  | .bool t => match tv st.fc t with
    | some true => .val a st
    | some false => .val b st
    | none => match a, b with
      | .bool x, .bool y => .val (.bool (mkIte st.fc t x y)) st
      | .int k x, .int l y => bif kBeq k l then .val (.int k (mkIte st.fc t x y)) st else .ask t
      | _, _ => .ask t
  | _ => .bad 67
theorem doPick_ok (hR : Real ρ st w) {c a b : V} (hc : c.wf st.nx) (ha : a.wf st.nx) (hb : b.wf st.nx) :
    VOk P ρ st w (do let q ← asBool (c.den ρ); pure (if q = true then a.den ρ else b.den ρ)) (doPick st c a b) := by
  unfold doPick
  split
  · rename_i t
    have hrun : ∀ q, (t.den ρ != 0) = q → (do let q ← asBool ((V.bool t).den ρ); pure (if q = true then a.den ρ else b.den ρ) : Sem Value).run P w = .ok (if q = true then a.den ρ else b.den ρ) w := by
      intro q hq; simp only [V.den, asBool, Sem.run_bind, Sem.run_pure, Result.andThen_ok, hq]
    split
    · rename_i h; refine VOk.same hR ha ?_; rw [hrun true (tv_sound hR.fc h)]; rfl
    · rename_i h; refine VOk.same hR hb ?_; rw [hrun false (tv_sound hR.fc h)]; rfl
    · split
      · rename_i x y
        refine VOk.same hR (v := .bool _) (mkIte_wf hc ha hb) ?_
        rw [hrun _ rfl]
        simp only [V.den, mkIte_den hR.fc]
        by_cases h : t.den ρ = 0 <;> simp [h]
      · rename_i k x l y
        cases hk : kBeq k l
        · exact hc
        · have := kBeq_eq hk; subst this
          refine VOk.same hR (v := .int k _) (mkIte_wf hc ha hb) ?_
          rw [hrun _ rfl]
          simp only [V.den, mkIte_den hR.fc]
          by_cases h : t.den ρ = 0 <;> simp [h]
      · exact hc
  · trivial

/-- nilCheck hands its operand on where that is not nil -/
def doNilCheck (st : St) (x : V) : OpR :=
  match x with
  | .ptr _ _ => .val x st
  | .iface _ _ => .val x st
  | .func (.fn (.func _)) _ _ => .val x st
  | .func (.yield _) _ _ => .val x st
  | _ => .bad 68

/-! ## Slicing -/
def bnd (st : St) (dflt : Tm) (o : Option V) : Option (Nat) :=
  match o with
  | none => match num st.fc dflt with | some z => natOf z | none => none
  | some (.int _ t) => match num st.fc t with | some z => natOf z | none => none
  | some _ => none
/-- is n at most t? -/
def atMost (fc : Facts) (n : Nat) (t : Tm) : Bool :=
  match rng fc t with
  | some (p, _) => Z.le (Int.ofNat n) p
  | none => false
theorem atMost_ok {fc : Facts} (hf : FactsOk ρ fc) {n : Nat} {t : Tm} (h : atMost fc n t = true) : (n : Int) ≤ t.den ρ := by
  unfold atMost at h
  have := rng_sound hf t
  split at h
  · rename_i p q e; rw [e] at this; simp only [InR] at this; have := (Z.le_iff _ _).1 h; simp at this; omega
  · simp at h

def doSlice (C : Ctx) (st : St) (ty : Nat) (x : V) (lo hi mx : Option V) : OpR :=
  match C.ty.get ty with
  | none => .bad 70
  | some i => match i.und, x, mx with
    | .slice _, .slice id off len cap, none => match i.el, bnd st (.lit 0) lo, bnd st (.lit len) hi with
      | some y, some l, some h =>
        bif Nat.ble l h && (Nat.ble h len || atMost st.fc h cap) && atMost st.fc h cap then
          bif Nat.beq l 0 then .val (.slice id off h cap) st
          else bif atMost st.fc (l + 1) cap then .val (.slice id (Nat.add off (Nat.mul l y.size)) (Nat.sub h l) (mkSub cap (.lit l))) st
          else match num st.fc cap with
            | some z => bif Z.beq z (Int.ofNat l) then .val (.slice id off (Nat.sub h l) (.lit 0)) st else .bad 71
            | none => .ask (.eq cap (.lit l))
        else .bad 73
      | _, _, _ => .bad 74
    | .slice _, .slice id off len cap, some (.int _ m) => match i.el, bnd st (.lit 0) lo, bnd st (.lit len) hi, hi, num st.fc m with
      | some y, some l, some h, some _, some mz => match natOf mz with
        | some mn => bif Nat.ble l h && Nat.ble h mn && atMost st.fc mn cap then
            bif Nat.beq mn l then .val (.slice id off (Nat.sub h l) (.lit 0)) st
            else .val (.slice id (Nat.add off (Nat.mul l y.size)) (Nat.sub h l) (.lit (Int.ofNat (Nat.sub mn l)))) st
          else .bad 75
        | none => .bad 76
      | _, _, _, _, _ => .bad 77
    | .slice _, .nilSlice, none => match i.el, bnd st (.lit 0) lo, bnd st (.lit 0) hi with
      | some _, some 0, some 0 => .val .nilSlice st
      | _, _, _ => .bad 78
    | .array _ _, .ptr id off, none => match i.el, bnd st (.lit 0) lo, bnd st (.lit i.len) hi with
      | some y, some l, some h => bif Nat.ble l h && Nat.ble h i.len then
          .val (.slice id (bif Nat.beq i.len l then off else Nat.add off (Nat.mul l y.size)) (Nat.sub h l) (.lit (Int.ofNat (Nat.sub i.len l)))) st
        else .bad 79
      | _, _, _ => .bad 80
    | .string, .str s, none => match bnd st (.lit 0) lo, bnd st (.lit s.length) hi with
      | some l, some h => bif Nat.ble l h && Nat.ble h s.length then .val (.str (dropN l s |>.take (Nat.sub h l))) st else .bad 81
      | _, _ => .bad 82
    | _, _, _ => .bad 83

theorem bnd_none {d : Tm} {n : Nat} (hf : FactsOk ρ st.fc) (h : bnd st d none = some n) : d.den ρ = n := by
  simp only [bnd] at h
  split at h
  · rename_i z hz; rw [num_sound hf hz, natOf_eq h]
  · simp at h
theorem bnd_some {d : Tm} {v : V} {n : Nat} (hf : FactsOk ρ st.fc) (h : bnd st d (some v) = some n) : ∃ k t, v = .int k t ∧ t.den ρ = n := by
  cases v <;> simp only [bnd] at h <;> try simp at h
  rename_i k t
  split at h
  · rename_i z hz; exact ⟨k, t, rfl, by rw [num_sound hf hz, natOf_eq h]⟩
  · simp at h
theorem run_sliceBound {k : IntKind} {n y : Nat} (h : n ≤ y) (code : BoundsCode) : (Instr.sliceBound (.int k n) y code).run P w = .ok n w := by
  simp only [Instr.sliceBound, asIntOf, Sem.run_bind, Sem.run_pure, Result.andThen_ok]
  rw [if_pos ⟨by omega, by omega⟩]
  simp

theorem run_bounds {b : Bool} {len cap l h : Nat} {lo hi : Option V} (hf : FactsOk ρ st.fc) (hl : bnd st (.lit 0) lo = some l) (hh : bnd st (.lit len) hi = some h) (hlh : l ≤ h) (hc : h ≤ cap) :
    (Instr.sliceBounds b len cap (lo.map (V.den ρ)) (hi.map (V.den ρ)) none).run P w = .ok (l, h, cap) w := by
  have step2 : ∀ h' : Nat, h' = h → (match lo.map (V.den ρ) with
      | some v => do
        let l ← Instr.sliceBound v h' (if (none : Option Value).isSome = true then BoundsCode.slice3C else BoundsCode.sliceB)
        pure (l, h', cap)
      | none => do
        let l ← pure 0
        pure (l, h', cap) : Sem (Nat × Nat × Nat)).run P w = .ok (l, h, cap) w := by
    intro h' e; subst e
    cases lo with
    | none =>
      have := bnd_none hf hl
      obtain rfl : l = 0 := by simp at this; omega
      simp
    | some v =>
      obtain ⟨k, t, rfl, ht⟩ := bnd_some hf hl
      simp only [Option.map_some, V.den, ht, Sem.run_bind, run_sliceBound hlh, Result.andThen_ok, Sem.run_pure]
  simp only [Instr.sliceBounds, pure_bind]
  cases hi with
  | none =>
    have := bnd_none hf hh
    simp at this
    simp only [Option.map_none]
    exact step2 len (by omega)
  | some v =>
    obtain ⟨k, t, rfl, ht⟩ := bnd_some hf hh
    simp only [Option.map_some, V.den, ht, Sem.run_bind, run_sliceBound hc, Result.andThen_ok]
    exact step2 h rfl
theorem run_bounds3 {b : Bool} {len cap l h m : Nat} {lo : Option V} {hv mv : V} (hf : FactsOk ρ st.fc) (hl : bnd st (.lit 0) lo = some l) (hh : bnd st (.lit len) (some hv) = some h) (hm : ∃ k t, mv = .int k t ∧ t.den ρ = m)
    (hlh : l ≤ h) (hc : h ≤ m) (hmc : m ≤ cap) :
    (Instr.sliceBounds b len cap (lo.map (V.den ρ)) (some (hv.den ρ)) (some (mv.den ρ))).run P w = .ok (l, h, m) w := by
  obtain ⟨k, t, rfl, ht⟩ := bnd_some hf hh
  obtain ⟨k', t', rfl, ht'⟩ := hm
  simp only [Instr.sliceBounds, V.den, ht, ht', Sem.run_bind, run_sliceBound hmc, run_sliceBound hc, Result.andThen_ok]
  cases lo with
  | none =>
    have := bnd_none hf hl
    obtain rfl : l = 0 := by simp at this; omega
    simp
  | some v =>
    obtain ⟨k, t, rfl, ht⟩ := bnd_some hf hl
    simp only [Option.map_some, V.den, ht, Sem.run_bind, run_sliceBound hlh, Result.andThen_ok, Sem.run_pure]

theorem doSlice_ok {C : Ctx} (hC : C.Ok P) (hR : Real ρ st w) (ty : Nat) {x : V} (hx : x.wf st.nx) (lo hi mx : Option V) :
    VOk P ρ st w (Instr.sliceAt ty (x.den ρ) (lo.map (V.den ρ)) (hi.map (V.den ρ)) (mx.map (V.den ρ))) (doSlice C st ty x lo hi mx) := by
  unfold doSlice
  split
  · trivial
  rename_i i hi'
  have hT := hC.get hi'
  split
  · rename_i e' id off len cap hu
    split
    · rename_i y l h hy hl hh
      obtain ⟨e, he, hf⟩ := hT.el y hy
      have hu' : i.und = .slice e := by
        rcases he with h | h
        · exact h
        · rw [hu] at h; simp at h
      cases hb : (Nat.ble l h && (Nat.ble h len || atMost st.fc h cap) && atMost st.fc h cap)
      · trivial
      · simp only [Bool.and_eq_true] at hb
        have b1 : l ≤ h := Nat.le_of_ble_eq_true hb.1.1
        have b2 := atMost_ok hR.fc hb.2
        have hrun := run_bounds (P := P) (w := w) (b := true) (cap := (cap.den ρ).toNat) hR.fc hl hh b1 (by omega)
        have key : ∀ v : V, v.wf st.nx → v.den ρ = .slice (if (cap.den ρ).toNat = l then some ⟨ρ.b id, ρ.o id + off, none⟩ else some ⟨ρ.b id, ρ.o id + off + l * y.size, none⟩) (h - l) ((cap.den ρ).toNat - l) →
            VOk P ρ st w (Instr.sliceAt ty ((V.slice id off len cap).den ρ) (lo.map (V.den ρ)) (hi.map (V.den ρ)) ((none : Option V).map (V.den ρ))) (.val v st) := by
          intro v hv hd
          refine VOk.same hR hv ?_
          simp only [Instr.sliceAt, Sem.run_bind, hT.run_und, Result.andThen_ok, hu', Instr.slice, V.den, Option.map_none, hrun, run_size_fi hf, Option.map_some, addr_add, Sem.run_pure]
          rw [hd]
        simp only [cond_true]
        cases h0 : Nat.beq l 0
        · cases h1 : atMost st.fc (l + 1) cap
          · simp only [cond_false]
            split
            · rename_i z hz
              cases h2 : Z.beq z (Int.ofNat l)
              · trivial
              · have hz' := num_sound hR.fc hz
                have := (Z.beq_iff _ _).1 h2
                have hcl : (cap.den ρ).toNat = l := by rw [hz', this]; simp
                refine key _ ⟨hx.1, trivial⟩ ?_
                simp [V.den, hcl]
            · exact ⟨hx.2, trivial⟩
          · have h1' := atMost_ok hR.fc h1
            refine key _ ⟨hx.1, mkSub_wf hx.2 trivial⟩ ?_
            simp only [V.den, mkSub_den, Tm.den]
            rw [if_neg (by omega), Nat.add_assoc]
            congr 1
            omega
        · have := Nat.eq_of_beq_eq_true h0
          subst this
          refine key _ hx ?_
          simp [V.den]
    · trivial
  · rename_i e' id off len cap k m hu
    split
    · rename_i y l h hv mz hy hl hm hh
      split
      · rename_i mn hmn
        obtain ⟨e, he, hf⟩ := hT.el y hy
        have hu' : i.und = .slice e := by
          rcases he with h | h
          · exact h
          · rw [hu] at h; simp at h
        cases hb : (Nat.ble l h && Nat.ble h mn && atMost st.fc mn cap)
        · trivial
        · simp only [Bool.and_eq_true] at hb
          have b1 : l ≤ h := Nat.le_of_ble_eq_true hb.1.1
          have b1' : h ≤ mn := Nat.le_of_ble_eq_true hb.1.2
          have b2 := atMost_ok hR.fc hb.2
          have hmd : m.den ρ = mn := by rw [num_sound hR.fc hm, natOf_eq hmn]
          have hrun := run_bounds3 (P := P) (w := w) (b := true) (cap := (cap.den ρ).toNat) (mv := .int k m) hR.fc hl hh ⟨k, m, rfl, hmd⟩ b1 b1' (by omega)
          have key : ∀ v : V, v.wf st.nx → v.den ρ = .slice (if mn = l then some ⟨ρ.b id, ρ.o id + off, none⟩ else some ⟨ρ.b id, ρ.o id + off + l * y.size, none⟩) (h - l) (mn - l) →
              VOk P ρ st w (Instr.sliceAt ty ((V.slice id off len cap).den ρ) (lo.map (V.den ρ)) ((some hv).map (V.den ρ)) ((some (V.int k m)).map (V.den ρ))) (.val v st) := by
            intro v hvw hd
            refine VOk.same hR hvw ?_
            simp only [Option.map_some] at hrun ⊢
            simp only [Instr.sliceAt, Sem.run_bind, hT.run_und, Result.andThen_ok, hu', Instr.slice]
            rw [show (V.slice id off len cap).den ρ = .slice (some ⟨ρ.b id, ρ.o id + off, none⟩) len (cap.den ρ).toNat from rfl]
            simp only [Sem.run_bind, hrun, Result.andThen_ok, run_size_fi hf, Option.map_some, addr_add, Sem.run_pure]
            rw [hd]
          simp only [cond_true]
          cases h0 : Nat.beq mn l
          · have hne : mn ≠ l := by intro e; rw [e] at h0; simp at h0
            refine key _ ⟨hx.1, trivial⟩ ?_
            simp only [V.den, Tm.den]
            rw [if_neg hne, Nat.add_assoc]
            rfl
          · have := Nat.eq_of_beq_eq_true h0
            subst this
            refine key _ ⟨hx.1, trivial⟩ ?_
            simp [V.den]
      · trivial
    · trivial
  · rename_i e' hu
    split
    · rename_i y hy hl hh
      obtain ⟨e, he, hf⟩ := hT.el y hy
      have hu' : i.und = .slice e := by
        rcases he with h | h
        · exact h
        · rw [hu] at h; simp at h
      have hrun := run_bounds (P := P) (w := w) (b := true) (len := 0) (cap := 0) hR.fc hl hh (Nat.le_refl _) (Nat.le_refl _)
      refine VOk.same hR trivial ?_
      simp only [Instr.sliceAt, Sem.run_bind, hT.run_und, Result.andThen_ok, hu', Instr.slice, V.den, Option.map_none, hrun, run_size_fi hf, Sem.run_pure]
      simp
    · trivial
  · rename_i n' e' id off hu
    split
    · rename_i y l h hy hl hh
      obtain ⟨e, he, hf⟩ := hT.el y hy
      have hu' : i.und = .array i.len e := by
        rcases he with h | h
        · rw [hu] at h; simp at h
        · exact h
      cases hb : (Nat.ble l h && Nat.ble h i.len)
      · trivial
      · simp only [Bool.and_eq_true] at hb
        have b1 : l ≤ h := Nat.le_of_ble_eq_true hb.1
        have b2 : h ≤ i.len := Nat.le_of_ble_eq_true hb.2
        have hrun := run_bounds (P := P) (w := w) (b := false) (len := i.len) (cap := i.len) hR.fc hl hh b1 b2
        refine VOk.same hR ⟨hx, trivial⟩ ?_
        simp only [Instr.sliceAt, Sem.run_bind, hT.run_und, Result.andThen_ok, hu', V.den, Option.map_none, hrun, run_size_fi hf, Sem.run_pure, Instr.sureAddr, pure_bind, addr_add]
        cases h0 : Nat.beq i.len l
        · have hne : i.len ≠ l := by intro e; rw [e] at h0; simp at h0
          rw [if_neg hne, Nat.add_assoc]; rfl
        · have := Nat.eq_of_beq_eq_true h0
          rw [if_pos this]; rfl
    · trivial
  · rename_i s hu
    split
    · rename_i l h hl hh
      cases hb : (Nat.ble l h && Nat.ble h s.length)
      · trivial
      · simp only [Bool.and_eq_true] at hb
        have b1 : l ≤ h := Nat.le_of_ble_eq_true hb.1
        have b2 : h ≤ s.length := Nat.le_of_ble_eq_true hb.2
        have hsz : (ByteArray.mk s.toArray).size = s.length := by simp [ByteArray.size]
        have hrun := run_bounds (P := P) (w := w) (b := false) (len := s.length) (cap := s.length) hR.fc hl hh b1 b2
        refine VOk.same hR trivial ?_
        simp only [Instr.sliceAt, Sem.run_bind, hT.run_und, Result.andThen_ok, hu, Instr.slice, V.den, Option.map_none, hsz, hrun, Sem.run_pure, Option.isSome_none, Bool.false_eq_true, if_false]
        congr 2
        rw [dropN_eq]
        apply ByteArray.ext
        rw [ByteArray.data_extract]
        apply Array.ext'
        simp
    · trivial
  · trivial
end
end Go.Sx
