/- A part of a symbolic evaluator over the model and of the proof that it is right: 'SxL'. It holds for every program; no condition. -/
import Derived.Test.YtaebmdinecilbaaGreatDoorSxK
import Derived.Laws.Strings
namespace Go.Sx

section
variable {P : Program} {ρ : Env} {st : St} {w : World}

/-! ## Operators of two operands -/
def pow2 (n : Nat) : Int := Int.ofNat (Nat.pow 2 n)
def bl (b : Bool) : Tm := .lit (b2i b)

def strLt : List UInt8 → List UInt8 → Bool
  | [], [] => false
  | [], _ :: _ => true
  | _ :: _, [] => false
  | a :: l, b :: m => bif Nat.blt a.toNat b.toNat then true else bif Nat.beq a.toNat b.toNat then strLt l m else false

def atLeast0 (fc : Facts) (a : Tm) : Bool := match rng fc a with | some (p, _) => Z.le 0 p | none => false
theorem atLeast0_ok {fc : Facts} (h : FactsOk ρ fc) {a : Tm} (ha : atLeast0 fc a = true) : 0 ≤ a.den ρ := by
  unfold atLeast0 at ha
  split at ha
  · rename_i p q e
    have := rng_sound h a
    rw [e] at this
    simp only [InR] at this
    have := (Z.le_iff _ _).1 ha
    omega
  · simp at ha
def doInt (st : St) (op : BinOp) (k : IntKind) (a b : Tm) : OpR :=
  match op with
  | .add => .val (.int k (mkWrap st.fc k (mkAdd a b))) st
  | .sub => .val (.int k (mkWrap st.fc k (mkSub a b))) st
  | .mul => .val (.int k (mkWrap st.fc k (mkMul a b))) st
  | .quo => match tv st.fc b with
    | some true => match a, b with
      | .lit x, .lit y => .val (.int k (.lit (wrapZ k (x.tdiv y)))) st
      | a, b => .val (.int k (mkWrap st.fc k (.quo a b))) st
    | some false => .bad 90
    | none => .ask b
  | .rem => match tv st.fc b with
    | some true => match a, b with
      | .lit x, .lit y => .val (.int k (.lit (x.tmod y))) st
      | a, b => .val (.int k (.rem a b)) st
    | some false => .bad 91
    | none => .ask b
  | .eql => .val (.bool (mkEq st.fc a b)) st
  | .neq => .val (.bool (mkNot (mkEq st.fc a b))) st
  | .lss => .val (.bool (mkLt st.fc a b)) st
  | .leq => .val (.bool (mkNot (mkLt st.fc b a))) st
  | .gtr => .val (.bool (mkLt st.fc b a)) st
  | .geq => .val (.bool (mkNot (mkLt st.fc a b))) st
  | .and => match num st.fc a, num st.fc b with
    | some x, some y => .val (.int k (.lit (bits op k x y))) st
    | none, some y => bif Z.beq y 1 && atLeast0 st.fc a then .val (.int k (.rem a (.lit 2))) st else askNum st.fc a 92
    | none, none => askNum st.fc a 92
    | some _, none => askNum st.fc b 93
  | .or | .xor | .andNot => match num st.fc a, num st.fc b with
    | some x, some y => .val (.int k (.lit (bits op k x y))) st
    | none, _ => askNum st.fc a 92
    | _, none => askNum st.fc b 93
  | _ => .bad 94

def doShift (st : St) (op : BinOp) (k : IntKind) (a b : Tm) : OpR :=
  match num st.fc b with
  | some y => match natOf y with
    | some n => bif Nat.ble n k.bits then (match op with
      | .shl => .val (.int k (mkWrap st.fc k (mkMul a (.lit (pow2 n))))) st
      | .shr => match num st.fc a with
        | some x => .val (.int k (.lit (x / pow2 n))) st
        | none => match rng st.fc a with
          | some (p, _) => bif Z.le 0 p then .val (.int k (.quo a (.lit (pow2 n)))) st else .bad 95
          | none => .bad 96
      | _ => .bad 97) else .bad 98
    | none => .bad 99
  | none => .bad 100

def isC : Operand → Bool
  | .const _ => true
  | _ => false

/-- what eqGuard lets by -/
def guardOk (C : Ctx) (t : Nat) (xo yo : Operand) (x y : V) : Bool :=
  match x, y with
  | .nilIface, .nilIface => isC xo || isC yo
  | .agg _, .agg _ => match C.ty.get t with | some i => i.free | none => false
  | .opq _, _ => false
  | _, .opq _ => false
  | _, _ => true

def vNot : V → Bool
  | .int _ _ | .str _ | .opq _ => false
  | _ => true
def doBin (C : Ctx) (st : St) (op : BinOp) (t : Nat) (xo yo : Operand) (x y : V) : OpR :=
  match x, y with
  | .int k a, .int l b => match op with
    | .shl | .shr => doShift st op k a b
    | op => bif kBeq k l then doInt st op k a b else .bad 101
  | .str a, .str b => match op with
    | .add => bif Nat.ble (Nat.add a.length b.length) 1000000 then .val (.str (a ++ b)) st else .bad 102
    | .eql => .val (.bool (bl (strEq a b))) st
    | .neq => .val (.bool (bl (!strEq a b))) st
    | _ => .bad 103
  | x, y => bif guardOk C t xo yo x y && vNot x then (match op with
    | .eql => match eqT C st.fc 12 t x y with
      | some r => .val (.bool r) st
      | none => .bad 104
    | .neq => match eqT C st.fc 12 t x y with
      | some r => .val (.bool (mkNot r)) st
      | none => .bad 105
    | _ => .bad 106) else .bad 107

theorem askNum_ok {s : Sem Value} {t : Tm} (ht : t.wf st.nx) (n : Nat) : VOk P ρ st w s (askNum st.fc t n) := askNum_v ht n

theorem bits_one (k : IntKind) {x : Int} (h : 0 ≤ x) : bits .and k x 1 = x.tmod 2 := by
  have e : x.tmod 2 = x % 2 := Int.tmod_eq_emod_of_nonneg h
  have key : ∀ n : Nat, 1 < 2 ^ n → (BitVec.ofInt n x &&& BitVec.ofInt n 1).toNat = (x % ((2 ^ n : Nat) : Int)).toNat % 2 := by
    intro n hn
    rw [BitVec.toNat_and, BitVec.toNat_ofInt, BitVec.toNat_ofInt]
    have h1 : ((1 : Int) % ((2 ^ n : Nat) : Int)).toNat = 1 := by rw [Int.emod_eq_of_lt (by omega) (by omega)]; rfl
    rw [h1, Nat.and_one_is_mod]
  rw [e]
  have hk : 1 < 2 ^ k.bits := by cases k <;> decide
  simp only [bits]
  rw [key k.bits hk]
  have hm : (x % ((2 ^ k.bits : Nat) : Int)).toNat % 2 = (x % 2).toNat := by
    cases k <;> simp only [IntKind.bits] <;> omega
  rw [hm, wrap_id]
  · omega
  · cases k <;> simp only [kLo] <;> omega
  · cases k <;> simp only [kHi] <;> omega
theorem doInt_ok (hR : Real ρ st w) (op : BinOp) (hop : op ≠ .shl ∧ op ≠ .shr) (k : IntKind) (t : Nat) {a b : Tm} (ha : a.wf st.nx) (hb : b.wf st.nx) :
    VOk P ρ st w (binOp op t (.int k (a.den ρ)) (.int k (b.den ρ))) (doInt st op k a b) := by
  have nz : tv st.fc b = some true → b.den ρ ≠ 0 := fun h => by have := tv_sound hR.fc h; simpa using this
  unfold doInt
  split
  · exact VOk.same hR (v := .int k _) (mkWrap_wf (mkAdd_wf ha hb)) (by rw [binOp_add]; simp only [Op.intArith, Sem.run_pure, V.den, mkWrap_den hR.fc, mkAdd_den])
  · exact VOk.same hR (v := .int k _) (mkWrap_wf (mkSub_wf ha hb)) (by rw [binOp_sub]; simp only [Op.intArith, Sem.run_pure, V.den, mkWrap_den hR.fc, mkSub_den])
  · exact VOk.same hR (v := .int k _) (mkWrap_wf (mkMul_wf ha hb)) (by rw [binOp_mul]; simp only [Op.intArith, Sem.run_pure, V.den, mkWrap_den hR.fc, mkMul_den])
  · split
    · rename_i h
      have h0 := nz h
      split
      · rename_i x y
        exact VOk.same hR (v := .int k _) trivial (by rw [binOp_quo, Op.intDiv, if_neg h0]; simp only [Sem.run_pure, V.den, Tm.den, wrapZ_eq])
      · exact VOk.same hR (v := .int k _) (mkWrap_wf ⟨ha, hb⟩) (by rw [binOp_quo]; simp only [Op.intDiv, if_neg h0, Sem.run_pure, V.den, mkWrap_den hR.fc, Tm.den])
    · trivial
    · exact hb
  · split
    · rename_i h
      have h0 := nz h
      split
      · rename_i x y
        exact VOk.same hR (v := .int k _) trivial (by rw [binOp_rem, Op.intDiv, if_neg h0]; rfl)
      · exact VOk.same hR (v := .int k _) ⟨ha, hb⟩ (by rw [binOp_rem]; simp only [Op.intDiv, if_neg h0, Sem.run_pure, V.den, Tm.den])
    · trivial
    · exact hb
  · exact VOk.same hR (v := .bool _) (mkEq_wf ha hb) (by rw [binOp_eql]; simp only [Sem.run_pure, V.den, mkEq_den hR.fc, b2i_ne]; rfl)
  · exact VOk.same hR (v := .bool _) (mkNot_wf (mkEq_wf ha hb)) (by
      rw [binOp_neq]; simp only [Sem.run_pure, V.den, mkNot_den, mkEq_den hR.fc, b2i_ne]
      congr 2; by_cases h : a.den ρ = b.den ρ <;> simp [h, b2i])
  · exact VOk.same hR (v := .bool _) (mkLt_wf ha hb) (by rw [binOp_lss]; simp only [Sem.run_pure, V.den, mkLt_den hR.fc, b2i_ne])
  · exact VOk.same hR (v := .bool _) (mkNot_wf (mkLt_wf hb ha)) (by
      rw [binOp_leq]; simp only [Sem.run_pure, V.den, mkNot_den, mkLt_den hR.fc, b2i_ne]
      congr 2; by_cases h : b.den ρ < a.den ρ
      · simp [h, b2i]
      · simp [h, b2i]; omega)
  · exact VOk.same hR (v := .bool _) (mkLt_wf hb ha) (by rw [binOp_gtr]; simp only [Sem.run_pure, V.den, mkLt_den hR.fc, b2i_ne])
  · exact VOk.same hR (v := .bool _) (mkNot_wf (mkLt_wf ha hb)) (by
      rw [binOp_geq]; simp only [Sem.run_pure, V.den, mkNot_den, mkLt_den hR.fc, b2i_ne]
      congr 2; by_cases h : a.den ρ < b.den ρ
      · simp [h, b2i]
      · simp [h, b2i]; omega)
  · split
    · rename_i x y hx hy
      refine VOk.same hR (v := .int k _) trivial ?_
      rw [binOp_and, intBits_and]; simp only [Sem.run_pure, V.den, Tm.den, num_sound hR.fc hx, num_sound hR.fc hy]
    · rename_i y hx hy
      cases hc : (Z.beq y 1 && atLeast0 st.fc a)
      · exact askNum_ok ha _
      · rw [Bool.and_eq_true] at hc
        have h1 := (Z.beq_iff _ _).1 hc.1
        subst h1
        have h0 := atLeast0_ok hR.fc hc.2
        refine VOk.same hR (v := .int k _) ⟨ha, trivial⟩ ?_
        rw [binOp_and, intBits_and]; simp only [Sem.run_pure, V.den, Tm.den, num_sound hR.fc hy, bits_one k h0]
    · exact askNum_ok ha _
    · exact askNum_ok hb _
  · split
    · rename_i x y hx hy
      refine VOk.same hR (v := .int k _) trivial ?_
      rw [binOp_or, intBits_or]; simp only [Sem.run_pure, V.den, Tm.den, num_sound hR.fc hx, num_sound hR.fc hy]
    · exact askNum_ok ha _
    · exact askNum_ok hb _
  · split
    · rename_i x y hx hy
      refine VOk.same hR (v := .int k _) trivial ?_
      rw [binOp_xor, intBits_xor]; simp only [Sem.run_pure, V.den, Tm.den, num_sound hR.fc hx, num_sound hR.fc hy]
    · exact askNum_ok ha _
    · exact askNum_ok hb _
  · split
    · rename_i x y hx hy
      refine VOk.same hR (v := .int k _) trivial ?_
      rw [binOp_andNot, intBits_andNot]; simp only [Sem.run_pure, V.den, Tm.den, num_sound hR.fc hx, num_sound hR.fc hy]
    · exact askNum_ok ha _
    · exact askNum_ok hb _
  · trivial

theorem pow2_eq (n : Nat) : pow2 n = 2 ^ n := by
  show ((2 ^ n : Nat) : Int) = _
  exact Int.natCast_pow 2 n
theorem doShift_ok (hR : Real ρ st w) (op : BinOp) (k l : IntKind) (t : Nat) {a b : Tm} (ha : a.wf st.nx) :
    VOk P ρ st w (binOp op t (.int k (a.den ρ)) (.int l (b.den ρ))) (doShift st op k a b) := by
  unfold doShift
  split
  · rename_i y hy
    have hy' := num_sound hR.fc hy
    split
    · rename_i n hn
      rw [natOf_eq hn] at hy'
      cases hb : Nat.ble n k.bits
      · trivial
      · have hn' : n ≤ k.bits := Nat.le_of_ble_eq_true hb
        simp only [cond_true]
        split
        · refine VOk.same hR (v := .int k _) (mkWrap_wf (mkMul_wf ha trivial)) ?_
          rw [binOp_shl, hy', shift_shl k l _ _ (by omega) (by omega)]
          simp only [Sem.run_pure, V.den, mkWrap_den hR.fc, mkMul_den, Tm.den, pow2_eq, Int.toNat_natCast]
        · have hs := shift_shr k l (a.den ρ) (n : Int) (by omega) (by omega)
          rw [Int.toNat_natCast] at hs
          split
          · rename_i x hx
            refine VOk.same hR (v := .int k _) trivial ?_
            rw [binOp_shr, hy', hs]
            simp only [Sem.run_pure, V.den, Tm.den, pow2_eq, num_sound hR.fc hx]
          · split
            · rename_i p q hpq
              have hr := rng_sound hR.fc a
              rw [hpq] at hr; simp only [InR] at hr
              cases h0 : Z.le 0 p
              · trivial
              · have := (Z.le_iff _ _).1 h0
                refine VOk.same hR (v := .int k _) ⟨ha, trivial⟩ ?_
                rw [binOp_shr, hy', hs]
                simp only [Sem.run_pure, V.den, Tm.den, pow2_eq]
                rw [Int.tdiv_eq_ediv_of_nonneg (by omega)]
            · trivial
        · trivial
    · trivial
  · trivial

theorem guardOk_spec {C : Ctx} (hC : C.Ok P) {op : BinOp} {t : Nat} {xo yo : Operand} {x y : V} (h : guardOk C t xo yo x y = true) :
    (eqGuard op t xo yo (x.den ρ) (y.den ρ)).run P w = .ok () w := by
  have nil : ∀ op : BinOp, isC xo = true ∨ isC yo = true → eqGuard op t xo yo .nilIface .nilIface = pure () := by
    intro op h
    rcases h with h | h
    · cases xo <;> simp [isC] at h; exact eqGuard_nil_constL ..
    · cases yo <;> simp [isC] at h; exact eqGuard_nil_constR ..
  have agg : ∀ (op : BinOp) (a b : Array Value), P.eqGuardType P.depth t = false → (eqGuard op t xo yo (.agg a) (.agg b)).run P w = .ok () w := by
    intro op a b he
    cases op <;> simp [eqGuard, he]
  have oth : ∀ (op : BinOp) (a b : Value), (∀ c, a ≠ .agg c) → a ≠ .nilIface → eqGuard op t xo yo a b = pure () := by
    intro op a b h1 h2
    cases a <;> first | exact absurd rfl (h1 _) | exact absurd rfl h2 | (cases op <;> rfl)
  have oth2 : ∀ (op : BinOp) (a b : Value), (∀ c, b ≠ .agg c) → b ≠ .nilIface → eqGuard op t xo yo a b = pure () := by
    intro op a b h1 h2
    cases b <;> first | exact absurd rfl (h1 _) | exact absurd rfl h2 | (cases op <;> first | rfl | (cases a <;> rfl))
  cases x
  case agg l =>
    cases y
    case agg m =>
      simp only [guardOk] at h
      split at h
      · rename_i i hi
        exact agg op _ _ ((hC.get hi).free h).1
      · simp at h
    case opq => simp [guardOk] at h
    case nilIface => cases op <;> rfl
    all_goals (rw [oth2 op _ _ (by intro c; simp [V.den, undef]) (by simp [V.den, undef])]; rfl)
  case nilIface =>
    cases y
    case nilIface =>
      simp only [guardOk, Bool.or_eq_true] at h
      show (eqGuard op t xo yo .nilIface .nilIface).run P w = _
      rw [nil op h]; rfl
    case opq => simp [guardOk] at h
    case agg => cases op <;> rfl
    all_goals (rw [oth2 op _ _ (by intro c; simp [V.den, undef]) (by simp [V.den, undef])]; rfl)
  case opq => cases y <;> simp [guardOk] at h
  all_goals (rw [oth op _ _ (by intro c; simp [V.den, undef]) (by simp [V.den, undef])]; rfl)

def notNum : Value → Bool
  | .int _ _ | .float _ _ | .complex _ _ _ | .string _ => false
  | _ => true
theorem binOp_eql_v {t : Nat} {a b : Value} (h : notNum a = true) : binOp .eql t a b = (do let r ← Op.equal t a b; pure (.bool r)) := by
  cases a <;> first | (simp [notNum] at h; done) | (cases b <;> rfl)
theorem binOp_neq_v {t : Nat} {a b : Value} (h : notNum a = true) : binOp .neq t a b = (do let r ← Op.equal t a b; pure (.bool (!r))) := by
  cases a <;> first | (simp [notNum] at h; done) | (cases b <;> rfl)
theorem vNot_spec {v : V} (h : vNot v = true) : notNum (v.den ρ) = true := by
  cases v <;> simp [vNot] at h <;> rfl

theorem doBin_ok {C : Ctx} (hC : C.Ok P) (hR : Real ρ st w) (op : BinOp) (t : Nat) (xo yo : Operand) {x y : V} (hx : x.wf st.nx) (hy : y.wf st.nx) :
    VOk P ρ st w (do eqGuard op t xo yo (x.den ρ) (y.den ρ); binOp op t (x.den ρ) (y.den ρ)) (doBin C st op t xo yo x y) := by
  have lift : ∀ {r : OpR}, guardOk C t xo yo x y = true → VOk P ρ st w (binOp op t (x.den ρ) (y.den ρ)) r → VOk P ρ st w (do eqGuard op t xo yo (x.den ρ) (y.den ρ); binOp op t (x.den ρ) (y.den ρ)) r := by
    intro r hg h
    have e : ∀ w', (do eqGuard op t xo yo (x.den ρ) (y.den ρ); binOp op t (x.den ρ) (y.den ρ) : Sem Value).run P w = w' ↔ (binOp op t (x.den ρ) (y.den ρ)).run P w = w' := by
      intro w'
      rw [Sem.run_bind, guardOk_spec hC hg, Result.andThen_ok]
    cases r <;> simp only [VOk, e] at h ⊢ <;> exact h
  unfold doBin
  split
  · rename_i k a l b
    refine lift rfl ?_
    split
    · exact doShift_ok hR .shl k l t hx
    · exact doShift_ok hR .shr k l t hx
    · rename_i h1 h2
      cases hk : kBeq k l
      · trivial
      · have := kBeq_eq hk; subst this
        exact doInt_ok hR op ⟨h1, h2⟩ k t hx hy
  · rename_i a b
    refine lift rfl ?_
    split
    · cases hb : Nat.ble (Nat.add a.length b.length) 1000000
      · trivial
      · have hle : a.length + b.length ≤ 1000000 := Nat.le_of_ble_eq_true hb
        refine VOk.same hR trivial ?_
        simp only [V.den, binOp, Op.stringOp]
        have e1 : (ByteArray.mk a.toArray).size = a.length := by simp [ByteArray.size]
        have e2 : (ByteArray.mk b.toArray).size = b.length := by simp [ByteArray.size]
        rw [e1, e2, if_neg (by simp only [IntKind.max_i64]; omega)]
        simp only [Sem.run_pure]
        congr 2
    · refine VOk.same hR (v := .bool _) trivial ?_
      simp only [V.den, binOp, Op.stringOp, Sem.run_pure, bl, Tm.den, b2i_ne]
      congr 2
      rw [Bool.eq_iff_iff, strEq_iff, ByteArray.toList_eq, ByteArray.toList_eq]
      simp
    · refine VOk.same hR (v := .bool _) trivial ?_
      simp only [V.den, binOp, Op.stringOp, Sem.run_pure, bl, Tm.den, b2i_ne]
      congr 3
      rw [Bool.eq_iff_iff, strEq_iff, ByteArray.toList_eq, ByteArray.toList_eq]
      simp
    · trivial
  · rename_i hno1 hno2
    cases hg : (guardOk C t xo yo x y && vNot x)
    · trivial
    · rw [Bool.and_eq_true] at hg
      refine lift hg.1 ?_
      have hn := vNot_spec (ρ := ρ) hg.2
      simp only [cond_true]
      have key : ∀ r : Tm, eqT C st.fc 12 t x y = some r → (Op.equal t (x.den ρ) (y.den ρ)).run P w = .ok (r.den ρ != 0) w ∧ r.wf st.nx := by
        intro r hr
        obtain ⟨g1, g2⟩ := eqT_spec hC hR.fc w 12 10000 t x y r (by omega) hr hx hy
        exact ⟨g2, g1⟩
      split
      · split
        · rename_i r hr
          obtain ⟨g1, g2⟩ := key r hr
          refine VOk.same hR (v := .bool r) g2 ?_
          rw [binOp_eql_v hn, Sem.run_bind, g1]; rfl
        · trivial
      · split
        · rename_i r hr
          obtain ⟨g1, g2⟩ := key r hr
          refine VOk.same hR (v := .bool _) (mkNot_wf g2) ?_
          rw [binOp_neq_v hn, Sem.run_bind, g1, Result.andThen_ok, Sem.run_pure]
          simp only [V.den, mkNot_den, b2i_ne]
          congr 2
          by_cases h : r.den ρ = 0 <;> simp [h]
        · trivial
      · trivial
end
end Go.Sx
