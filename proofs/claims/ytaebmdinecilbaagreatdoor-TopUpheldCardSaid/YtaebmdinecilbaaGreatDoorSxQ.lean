/- A part of a symbolic evaluator over the model and of the proof that it is right: 'SxQ'. It holds for every program; no condition. -/
import Derived.Test.YtaebmdinecilbaaGreatDoorSxN
import Derived.Laws.RangeString
import Derived.Laws.MakeOwn
namespace Go.Sx

section
variable {P : Program} {ρ : Env} {st : St} {w : World}

/-! ## Conversions, make, assertions -/
def doConvert (C : Ctx) (st : St) (src dst : Nat) (x : V) : OpR :=
  match C.ty.get src, C.ty.get dst with
  | some _, some j => match j.und, x with
    | .int k, .int _ t => .val (.int k (mkWrap st.fc k t)) st
    | .string, .str s => .val (.str s) st
    | _, _ => .bad 200
  | _, _ => .bad 201
theorem doConvert_ok {C : Ctx} (hC : C.Ok P) (hR : Real ρ st w) (src dst : Nat) {x : V} (hx : x.wf st.nx) : VOk P ρ st w (convert src dst (x.den ρ)) (doConvert C st src dst x) := by
  unfold doConvert
  split
  · rename_i i j hi hj
    have hT := hC.get hi
    have hJ := hC.get hj
    split
    · rename_i k k' t hu
      refine VOk.same hR (v := .int k _) (mkWrap_wf hx) ?_
      simp only [convert, Sem.run_bind, hT.run_und, hJ.run_und, Result.andThen_ok, hu, V.den, Conv.intToInt, Sem.run_pure, mkWrap_den hR.fc]
    · rename_i s hu
      refine VOk.same hR trivial ?_
      simp only [convert, Sem.run_bind, hT.run_und, hJ.run_und, Result.andThen_ok, hu, V.den]
      cases i.und <;> rfl
    · trivial
  · trivial

def natNum (fc : Facts) (x : V) : Option Nat :=
  match x with
  | .int _ t => match num fc t with | some z => natOf z | none => none
  | _ => none
theorem natNum_spec {fc : Facts} (hf : FactsOk ρ fc) {x : V} {n : Nat} (h : natNum fc x = some n) : ∃ k, x.den ρ = .int k n := by
  unfold natNum at h
  split at h
  · rename_i k t
    split at h
    · rename_i z hz; exact ⟨k, by simp [V.den, num_sound hf hz, natOf_eq h]⟩
    · simp at h
  · simp at h

def doMakeSlice (C : Ctx) (st : St) (ty : Nat) (l c : V) : OpR :=
  match C.ty.get ty with
  | some i => match i.und, i.el, natNum st.fc l, natNum st.fc c with
    | .slice _, some y, some ln, some cn => match C.ty.get y.ty with
      | some k => match k.zero with
        | some z => match z.cellsL with
          | some zl => bif Nat.ble ln cn && Nat.ble cn 10000000 && Nat.ble k.bytes 10000 && Nat.beq zl.length y.size && Nat.ble 1 y.size then
              .val (.slice st.nx 0 ln (.lit cn)) (newCells st (repL zl cn)) else .bad 202
          | none => .bad 203
        | none => .bad 204
      | none => .bad 205
    | _, _, _, _ => .bad 206
  | none => .bad 207

theorem i64_wrap_nat (n : Nat) (h : n ≤ 10000000) : IntKind.i64.wrap (n : Int) = n := wrap_id .i64 _ (by simp only [kLo]; omega) (by simp only [kHi]; omega)

theorem doMakeSlice_ok {C : Ctx} (hC : C.Ok P) (hR : Real ρ st w) (ty : Nat) {l c : V} : VOk P ρ st w (Instr.makeSlice ty (l.den ρ) (c.den ρ)) (doMakeSlice C st ty l c) := by
  unfold doMakeSlice
  split
  · rename_i i hi
    have hT := hC.get hi
    split
    · rename_i e' y ln cn hu hy hln hcn
      obtain ⟨e, he, hf⟩ := hT.el y hy
      have hu' : i.und = .slice e := by
        rcases he with h | h
        · exact h
        · rw [hu] at h; simp at h
      obtain ⟨ey, _⟩ := mkFI_spec hf
      split
      · rename_i k hk
        have hK := hC.get hk
        rw [ey] at hK
        split
        · rename_i z hz
          have hzz := (hK.run_zero w hz).2 ρ st.nx
          split
          · rename_i zl hzl
            obtain ⟨z1, z2, z3⟩ := V.cellsL_spec hzl
            cases hb : (Nat.ble ln cn && Nat.ble cn 10000000 && Nat.ble k.bytes 10000 && Nat.beq zl.length y.size && Nat.ble 1 y.size)
            · trivial
            · simp only [Bool.and_eq_true] at hb
              obtain ⟨⟨⟨⟨b1, b2⟩, b3⟩, b4⟩, b5⟩ := hb
              have b1 := Nat.le_of_ble_eq_true b1
              have b2 := Nat.le_of_ble_eq_true b2
              have b3 := Nat.le_of_ble_eq_true b3
              have b4 := Nat.eq_of_beq_eq_true b4
              have b5 := Nat.le_of_ble_eq_true b5
              obtain ⟨kl, hl⟩ := natNum_spec hR.fc hln
              obtain ⟨kc, hc⟩ := natNum_spec hR.fc hcn
              obtain ⟨ii, k2, k3, k4, k5⟩ := hK.info
              have hmul : k.bytes * cn ≤ 10000 * 10000000 := Nat.mul_le_mul b3 b2
              have hmull : k.bytes * ln ≤ 10000 * 10000000 := Nat.mul_le_mul b3 (by omega)
              refine ⟨_, _, newCells_step hR (repL_wf (z2 _ hzz.1) cn) e _ rfl, ⟨Nat.lt_succ_self _, trivial⟩, ?_⟩
              have hd : (V.slice st.nx 0 ln (.lit cn)).den (ρ.setB st.nx w.heap.size 0) = .slice (some ⟨w.heap.size, 0, none⟩) ln cn := by simp [V.den, Env.setB]
              rw [hd, hl, hc]
              have hti : (typeInfo e).run P w = .ok ii w := by simp [typeInfo, k2]
              simp only [Instr.makeSlice, Sem.run_bind, hT.run_und, Result.andThen_ok, hu', asInt, asIntOf, Sem.run_pure, hti, i64_wrap_nat ln (by omega), i64_wrap_nat cn b2, k4]
              have c1 : ¬ ((cn : Int) < 0) := by omega
              have c2 : ¬ ((ln : Int) < 0) := by omega
              have c3 : ¬ ((ln : Int) > cn) := by omega
              have c4 : ¬ ((k.bytes : Int) * cn > 2 ^ 48) := by
                have : ((k.bytes * cn : Nat) : Int) ≤ ((10000 * 10000000 : Nat) : Int) := Int.ofNat_le.2 hmul
                rw [Int.natCast_mul] at this
                omega
              simp only [c1, c2, c3, c4, decide_false, Bool.or_false, Bool.false_eq_true, if_false, Int.toNat_natCast]
              simp only [Sem.run_bind, run_askRoom, Result.andThen_ok, run_size_fi hf]
              by_cases h0 : cn * y.size = 0
              · have hc0 : cn = 0 := by
                  rcases Nat.mul_eq_zero.1 h0 with h | h
                  · exact h
                  · omega
                subst hc0
                have hm0 : Array.map (fun (_ : Nat) => (default : Value)) (Array.range 0) = #[] := Array.eq_empty_of_size_eq_zero (by simp)
                simp [newRow, hm0, repL, V.denL]
              · rw [if_neg h0]
                simp only [Sem.run_bind, hzz.2, Result.andThen_ok, Sem.run_pure, z3 ρ]
                rw [zeros_eq (n := cn) (by rw [b4])]
                simp only [newRow_run, Result.andThen_ok]
          · trivial
        · trivial
      · trivial
    · trivial
  · trivial

def doTypeAssert (C : Ctx) (st : St) (x : V) (asserted : Nat) (commaOk : Bool) : OpR :=
  match C.ty.get asserted with
  | some i => match i.und, x with
    | .interface _, _ => .bad 210
    | _, .iface t v => bif Nat.beq t asserted then .val (bif commaOk then .tuple [v, .bool (.lit 1)] else v) st
        else bif commaOk then (match i.zero with | some z => .val (.tuple [z, .bool (.lit 0)]) st | none => .bad 211) else .bad 212
    | _, .nilIface => bif commaOk then (match i.zero with | some z => .val (.tuple [z, .bool (.lit 0)]) st | none => .bad 213) else .bad 214
    | _, _ => .bad 215
  | none => .bad 216
theorem doTypeAssert_ok {C : Ctx} (hC : C.Ok P) (hR : Real ρ st w) {x : V} (hx : x.wf st.nx) (xT asserted : Nat) (commaOk : Bool) :
    VOk P ρ st w (Instr.typeAssert (x.den ρ) xT asserted commaOk) (doTypeAssert C st x asserted commaOk) := by
  unfold doTypeAssert
  split
  · rename_i i hi
    have hT := hC.get hi
    have hz : ∀ z, i.zero = some z → z.wf st.nx ∧ (zeroValue asserted).run P w = .ok (z.den ρ) w := fun z h => (hT.run_zero w h).2 ρ st.nx
    split
    · trivial
    · rename_i d x' t v hu
      have e : (Instr.typeAssert ((V.iface t v).den ρ) xT asserted commaOk).run P w =
          (if t = asserted then (pure (if commaOk = true then Value.tuple #[v.den ρ, Value.bool true] else v.den ρ) : Sem Value) else
            (if commaOk = true then do let z ← zeroValue asserted; pure (Value.tuple #[z, Value.bool false])
             else runtimePanic (RuntimeError.typeAssertion (some xT) (some t) asserted ""))).run P w := by
        simp only [Instr.typeAssert, Sem.run_bind, hT.run_und, Result.andThen_ok, V.den]
      cases hb : Nat.beq t asserted
      · have hne : t ≠ asserted := by intro e; rw [e] at hb; simp at hb
        rw [if_neg hne] at e
        cases commaOk
        · trivial
        · simp only [cond_true, cond_false]
          split
          · rename_i z hzz
            obtain ⟨z1, z2⟩ := hz z hzz
            refine VOk.same hR ⟨z1, trivial, trivial⟩ ?_
            rw [e]
            simp only [if_true, Sem.run_bind, z2, Result.andThen_ok, Sem.run_pure]
            rfl
          · trivial
      · have := Nat.eq_of_beq_eq_true hb
        rw [if_pos this] at e
        cases commaOk
        · refine VOk.same hR hx ?_
          rw [e]; rfl
        · refine VOk.same hR ⟨hx, trivial, trivial⟩ ?_
          rw [e]; rfl
    · rename_i hu
      have e : (Instr.typeAssert (V.nilIface.den ρ) xT asserted commaOk).run P w =
            (if commaOk = true then do let z ← zeroValue asserted; pure (Value.tuple #[z, Value.bool false])
             else runtimePanic (RuntimeError.typeAssertion (some xT) none asserted "") : Sem Value).run P w := by
        simp only [Instr.typeAssert, Sem.run_bind, hT.run_und, Result.andThen_ok, V.den]
      cases commaOk
      · trivial
      · simp only [cond_true]
        split
        · rename_i z hzz
          obtain ⟨z1, z2⟩ := hz z hzz
          refine VOk.same hR ⟨z1, trivial, trivial⟩ ?_
          rw [e]
          simp only [if_true, Sem.run_bind, z2, Result.andThen_ok, Sem.run_pure]
          rfl
        · trivial
    · trivial
  · trivial

def doPanic (x : V) : OpR := match x with | .iface t v => .panic (.iface t v) | _ => .bad 217
theorem doPanic_ok {x : V} (hx : x.wf st.nx) : VOk P ρ st w (Instr.panic (x.den ρ)) (doPanic x) := by
  unfold doPanic
  split
  · exact ⟨hx, rfl⟩
  · trivial

/-! ## Ranging over strings -/
def doRange (C : Ctx) (st : St) (ty : Nat) (x : V) : OpR :=
  match C.ty.get ty with
  | some i => match i.und, x with
    | .string, .str s => .val (.ptr st.nx 0) { st with h := st.h.set st.nx (.strIter s 0), nx := st.nx + 1 }
    | .map _ _, .nilMap => .val (.ptr st.nx 0) { st with h := st.h.set st.nx (.mapIter none 0 [] 0), nx := st.nx + 1 }
    | .map _ _, .map id => match st.h.get id with
      | some (.map _ clock) => .val (.ptr st.nx 0) { st with h := st.h.set st.nx (.mapIter (some id) clock [] clock), nx := st.nx + 1 }
      | _ => .bad 220
    | _, _ => .bad 221
  | none => .bad 222
theorem doRange_ok {C : Ctx} (hC : C.Ok P) (hR : Real ρ st w) (ty : Nat) (x : V) (hx : x.wf st.nx) : VOk P ρ st w (Instr.range ty (x.den ρ)) (doRange C st ty x) := by
  unfold doRange
  split
  · rename_i i hi
    have hT := hC.get hi
    split
    · rename_i s hu
      refine ⟨_, _, Step.alloc hR (o := .strIter s 0) (obj := .stringIter ⟨s.toArray⟩ 0) ⟨rfl, rfl, by simp [Env.setB]⟩ trivial, Nat.lt_succ_self _, ?_⟩
      rw [ptr_new_den]
      simp only [Instr.range, Sem.run_bind, hT.run_und, Result.andThen_ok, hu, V.den, Sem.run_pure, run_newObj]
      rfl
    · rename_i k e hu
      refine ⟨_, _, Step.alloc hR (o := .mapIter none 0 [] 0) (obj := .mapIter none 0 #[] 0) ⟨rfl, rfl, rfl, rfl, by simp [Env.setB]⟩ (by intro id hid; simp at hid), Nat.lt_succ_self _, ?_⟩
      rw [ptr_new_den]
      simp only [Instr.range, Sem.run_bind, hT.run_und, Result.andThen_ok, hu, V.den, Sem.run_pure, run_newObj]
      rfl
    · rename_i k e id hu
      split
      · rename_i es clock ho
        obtain ⟨h1, h2, obj, h3, h4⟩ := hR.obj id _ ho
        cases obj <;> simp only [ObRel] at h4
        rename_i es' clock'
        have hne : id ≠ st.nx := Nat.ne_of_lt h1
        refine ⟨_, _, Step.alloc hR (o := .mapIter (some id) clock [] clock) (obj := .mapIter (some (ρ.b id)) clock #[] clock) ⟨by simp [Env.setB, hne], rfl, rfl, rfl, by simp [Env.setB]⟩ (by intro j hj; simp at hj; subst hj; omega), Nat.lt_succ_self _, ?_⟩
        rw [ptr_new_den]
        have hg : (getObj (ρ.b id)).run P w = .ok (.map es' clock') w := by simp only [getObj, Sem.run, h3]
        simp only [Instr.range, Sem.run_bind, hT.run_und, Result.andThen_ok, hu, V.den, hg, Sem.run_pure, run_newObj, h4.2]
        rfl
      · trivial
    · trivial
  · trivial

def nthB : List UInt8 → Nat → Option UInt8
  | [], _ => none
  | c :: _, 0 => some c
  | _ :: l, n + 1 => nthB l n
theorem nthB_eq : ∀ (l : List UInt8) (n : Nat), nthB l n = l[n]?
  | [], _ => rfl
  | _ :: _, 0 => rfl
  | _ :: l, n + 1 => by simp [nthB, nthB_eq l n]

def leftOf (seen : List Nat) : List (V × V × Nat) → List (V × V × Nat)
  | [] => []
  | e :: l => bif seen.contains e.2.2 then leftOf seen l else e :: leftOf seen l

def doNext (st : St) (x : V) (isString : Bool) : OpR :=
  match x with
  | .ptr id 0 => match st.h.get id, isString with
    | some (.strIter s pos), true => match nthB s pos with
      | none => .val (.tuple [.bool (.lit 0)]) st
      | some c => bif Nat.blt c.toNat 128 then
          .val (.tuple [.bool (.lit 1), .int .i64 (.lit pos), .int .i32 (.lit (Int.ofNat c.toNat))]) { st with h := st.h.set id (.strIter s (pos + 1)) }
        else .bad 223
    | some (.mapIter none _ _ _), false => .val (.tuple [.bool (.lit 0)]) st
    | some (.mapIter (some m) since seen last), false => match st.h.get m with
      | some (.map es clock) => bif Nat.beq since clock && Nat.beq last clock && es.all (fun e => Nat.blt e.2.2 since) then
          (match leftOf seen es with
          | [] => .val (.tuple [.bool (.lit 0)]) st
          | [e] => .val (.tuple [.bool (.lit 1), e.1, e.2.1]) { st with h := st.h.set id (.mapIter (some m) since (seen ++ [e.2.2]) clock) }
          | l => .oneOf (l.map fun e => (.tuple [.bool (.lit 1), e.1, e.2.1], { st with h := st.h.set id (.mapIter (some m) since (seen ++ [e.2.2]) clock) })))
        else .bad 224
      | _ => .bad 225
    | _, _ => .bad 226
  | _ => .bad 227

theorem leftOf_eq (seen : List Nat) : ∀ es : List (V × V × Nat),
    ((es.map fun e => ({ key := e.1.den ρ, val := e.2.1.den ρ, born := e.2.2 } : MapEntry)).filter fun e => !seen.contains e.born) = (leftOf seen es).map fun e => { key := e.1.den ρ, val := e.2.1.den ρ, born := e.2.2 }
  | [] => rfl
  | e :: es => by
    simp only [List.map_cons, List.filter_cons, leftOf, leftOf_eq seen es]
    cases seen.contains e.2.2 <;> simp
theorem leftOf_mem {seen : List Nat} : ∀ {es : List (V × V × Nat)} {e : V × V × Nat}, e ∈ leftOf seen es → e ∈ es
  | [], e, h => by simp [leftOf] at h
  | x :: es, e, h => by
    simp only [leftOf] at h
    cases hc : seen.contains x.2.2 <;> simp only [hc, cond_true, cond_false] at h
    · rcases List.mem_cons.1 h with rfl | h
      · exact List.mem_cons_self ..
      · exact List.mem_cons_of_mem _ (leftOf_mem h)
    · exact List.mem_cons_of_mem _ (leftOf_mem h)

theorem run_getObj {id : Nat} {obj : Obj} (h : w.heap[id]? = some obj) (hc : ∀ a b c, obj ≠ .cells a b c) : (getObj id).run P w = .ok obj w := by
  cases obj <;> first | exact absurd rfl (hc _ _ _) | (simp only [getObj, Sem.run, h])
theorem run_setObj {id : Nat} {obj obj' : Obj} (h : w.heap[id]? = some obj) (hc : ∀ a b c, obj ≠ .cells a b c) : (setObj id obj').run P w = .ok () { w with heap := w.heap.setIfInBounds id obj' } := by
  cases obj <;> first | exact absurd rfl (hc _ _ _) | (simp only [setObj, Sem.run, h])

theorem cut_lt (n t : Nat) (h : 0 < n) : (Question.mapNext n).cut t < n := Nat.mod_lt _ h

theorem doNext_ok (hR : Real ρ st w) {x : V} (hx : x.wf st.nx) (isString : Bool) (ty : Nat) : VOk P ρ st w (Instr.next (x.den ρ) isString ty) (doNext st x isString) := by
  unfold doNext
  split
  · rename_i id
    split
    · rename_i s pos ho
      obtain ⟨h1, h2, obj, h3, h4⟩ := hR.obj id _ ho
      cases obj <;> simp only [ObRel] at h4
      rename_i s' posq
      obtain ⟨rfl, rfl, h0⟩ := h4
      have hg := run_getObj (P := P) (w := w) h3 (by intro a b c h; simp at h)
      have hsz : (ByteArray.mk s.toArray).size = s.length := by simp [ByteArray.size]
      have hd : (V.ptr id 0).den ρ = .pointer (some ⟨ρ.b id, 0, none⟩) := by simp [V.den, h0]
      rw [nthB_eq]
      split
      · rename_i hn
        have hge : ¬ posq < s.length := by
          intro h; rw [List.getElem?_eq_getElem h] at hn; simp at hn
        refine VOk.same hR ⟨trivial, trivial⟩ ?_
        rw [hd]
        simp only [Instr.next, Sem.run_bind, hg, Result.andThen_ok, hsz, if_neg hge, Sem.run_pure]
        rfl
      · rename_i c hn
        have hlt : posq < s.length := (List.getElem?_eq_some_iff.1 hn).1
        have hc : s[posq] = c := (List.getElem?_eq_some_iff.1 hn).2
        cases hb : Nat.blt c.toNat 128
        · trivial
        · have hlt' : c.toNat < 128 := by simpa [Nat.blt_eq] using hb
          have hset := run_setObj (P := P) (w := w) (obj' := .stringIter ⟨s.toArray⟩ (posq + 1)) h3 (by intro a b c h; simp at h)
          have hb' : (ByteArray.mk s.toArray)[posq]'(by rw [hsz]; exact hlt) = c := by rw [← hc]; rfl
          have hdec := decode_ascii ⟨s.toArray⟩ posq (by rw [hsz]; exact hlt) (by rw [hb']; exact hlt')
          rw [hb'] at hdec
          refine ⟨_, _, Step.write hR ho rfl (o' := .strIter s (posq + 1)) (obj := .stringIter ⟨s.toArray⟩ (posq + 1)) ⟨rfl, rfl, h0⟩ trivial, ⟨trivial, trivial, trivial, trivial⟩, ?_⟩
          rw [hd]
          simp only [Instr.next, Sem.run_bind, hg, Result.andThen_ok, hsz, if_pos hlt, hdec, hset, Sem.run_pure]
          rfl
    · rename_i since seen last ho
      obtain ⟨h1, h2, obj, h3, h4⟩ := hR.obj id _ ho
      cases obj <;> simp only [ObRel] at h4
      obtain ⟨rfl, rfl, rfl, rfl, h0⟩ := h4
      have hg := run_getObj (P := P) (w := w) h3 (by intro a b c h; simp at h)
      have hd : (V.ptr id 0).den ρ = .pointer (some ⟨ρ.b id, 0, none⟩) := by simp [V.den, h0]
      refine VOk.same hR ⟨trivial, trivial⟩ ?_
      rw [hd]
      simp only [Instr.next, Sem.run_bind, hg, Result.andThen_ok, Option.map_none, Sem.run_pure]
      rfl
    · rename_i m since seen last ho
      obtain ⟨h1, h2, obj, h3, h4⟩ := hR.obj id _ ho
      cases obj <;> simp only [ObRel] at h4
      obtain ⟨rfl, rfl, rfl, rfl, h0⟩ := h4
      rename_i since last
      have hg := run_getObj (P := P) (w := w) h3 (by intro a b c h; simp at h)
      have hd : (V.ptr id 0).den ρ = .pointer (some ⟨ρ.b id, 0, none⟩) := by simp [V.den, h0]
      split
      · rename_i es clock hm
        obtain ⟨m1, m2, mobj, m3, m4⟩ := hR.obj m _ hm
        cases mobj <;> simp only [ObRel] at m4
        obtain ⟨rfl, rfl⟩ := m4
        rename_i clock
        have hgm := run_getObj (P := P) (w := w) m3 (by intro a b c h; simp at h)
        cases hb : (Nat.beq since clock && Nat.beq last clock && es.all (fun e => Nat.blt e.2.2 since))
        · trivial
        simp only [Bool.and_eq_true] at hb
        obtain ⟨⟨b1, b2⟩, b3⟩ := hb
        obtain rfl := Nat.eq_of_beq_eq_true b1
        obtain rfl := Nat.eq_of_beq_eq_true b2
        rw [List.all_eq_true] at b3
        have b3' : ∀ e ∈ es, e.2.2 < last := fun e he => by simpa [Nat.blt_eq] using b3 e he
        simp only [cond_true]
        let mk : V × V × Nat → MapEntry := fun e => { key := e.1.den ρ, val := e.2.1.den ρ, born := e.2.2 }
        have hcond : (!(seen.toArray).isEmpty && !((es.map mk).toArray).isEmpty && ((es.map mk).toArray).all fun x => decide (x.born ≥ last)) = false := by
          cases es with
          | nil => simp
          | cons e es =>
            have := b3' e (List.mem_cons_self ..)
            simp [mk]
            intro _ hle; omega
        have hleft : ((es.map mk).toArray).filter (fun e => !(seen.toArray).contains e.born) = ((leftOf seen es).map mk).toArray := by
          rw [List.filter_toArray]
          congr 1
          rw [← leftOf_eq (ρ := ρ) seen es]
          congr 1
          funext e
          simp
        have hold : (((leftOf seen es).map mk).toArray).filter (fun x => decide (x.born < last)) = ((leftOf seen es).map mk).toArray := by
          rw [List.filter_toArray]
          congr 1
          rw [List.filter_eq_self]
          intro e he
          obtain ⟨x, hx, rfl⟩ := List.mem_map.1 he
          simpa [mk] using b3' x (leftOf_mem hx)
        have hnew : (((leftOf seen es).map mk).toArray).filter (fun x => decide (x.born ≥ last)) = #[] := by
          rw [List.filter_toArray]
          have : List.filter (fun x : MapEntry => decide (x.born ≥ last)) ((leftOf seen es).map mk) = [] := by
            rw [List.filter_eq_nil_iff]
            intro e he
            obtain ⟨x, hx, rfl⟩ := List.mem_map.1 he
            have := b3' x (leftOf_mem hx)
            simp [mk]; omega
          rw [this]
        have hrun : (Instr.next ((V.ptr id 0).den ρ) false ty).run P w = ((do
            let k ← choose (Question.mapNext ((if (((leftOf seen es).map mk).toArray).isEmpty = true then #[none] else #[]) ++ Array.map some (((leftOf seen es).map mk).toArray ++ #[])).size)
            match ((if (((leftOf seen es).map mk).toArray).isEmpty = true then #[none] else #[]) ++ Array.map some (((leftOf seen es).map mk).toArray ++ #[]))[k]? with
            | some (some e) => do
              setObj (ρ.b id) (Obj.mapIter (some (ρ.b m)) last (seen.toArray.push e.born) last)
              pure (Value.tuple #[Value.bool true, e.key, e.val])
            | some none => pure (Value.tuple #[Value.bool false])
            | none => stuck "Next: no such candidate" : Sem Value)).run P w := by
          rw [hd]
          simp only [Instr.next, Sem.run_bind, hg, Result.andThen_ok, Option.map_some, hgm]
          rw [show (List.map (fun e : V × V × Nat => ({ key := e.1.den ρ, val := e.2.1.den ρ, born := e.2.2 } : MapEntry)) es) = es.map mk from rfl]
          rw [hleft, hold, hnew, hcond, if_neg (by simp), Sem.run_bind]
          rfl
        have hpick : ∀ (k : Nat) (w' : World), w'.heap = w.heap → ∀ e, (leftOf seen es)[k]? = some e →
            (do
              setObj (ρ.b id) (Obj.mapIter (some (ρ.b m)) last (seen.toArray.push (mk e).born) last)
              pure (Value.tuple #[Value.bool true, (mk e).key, (mk e).val]) : Sem Value).run P w' = .ok (.tuple #[.bool true, e.1.den ρ, e.2.1.den ρ]) { w' with heap := w'.heap.setIfInBounds (ρ.b id) (Obj.mapIter (some (ρ.b m)) last (seen ++ [e.2.2]).toArray last) } := by
          intro k w' hw' e he
          have := run_setObj (P := P) (w := w') (obj' := Obj.mapIter (some (ρ.b m)) last (seen.toArray.push (mk e).born) last) (id := ρ.b id) (by rw [hw']; exact h3) (by intro a b c h; simp at h)
          simp only [Sem.run_bind, this, Result.andThen_ok, Sem.run_pure]
          simp [mk]
        have hwfe : ∀ e ∈ leftOf seen es, V.wf st.nx (.tuple [.bool (.lit 1), e.1, e.2.1]) := fun e he => ⟨trivial, (m2 e (leftOf_mem he)).1, (m2 e (leftOf_mem he)).2, trivial⟩
        have hstep : ∀ (e : V × V × Nat) (w' : World), Step ρ st w ρ st w' → w'.heap = w.heap → Step ρ st w ρ { st with h := st.h.set id (.mapIter (some m) last (seen ++ [e.2.2]) last) } { w' with heap := w'.heap.setIfInBounds (ρ.b id) (Obj.mapIter (some (ρ.b m)) last (seen ++ [e.2.2]).toArray last) } := by
          intro e w' hs hw'
          exact hs.trans (Step.write hs.real ho rfl (o' := .mapIter (some m) last (seen ++ [e.2.2]) last) ⟨rfl, rfl, rfl, rfl, h0⟩ (by intro j hj; simp at hj; subst hj; exact m1))
        split
        · rename_i hl
          refine VOk.same hR ⟨trivial, trivial⟩ ?_
          rw [hrun, hl]
          simp [Question.forced]
          rfl
        · rename_i e hl
          refine ⟨ρ, _, hstep e w (Step.refl hR) rfl, hwfe e (by rw [hl]; simp), ?_⟩
          rw [hrun, hl]
          have := hpick 0 w rfl e (by rw [hl]; rfl)
          simp [Question.forced] at this ⊢
          rw [this]
          rfl
        · rename_i l hne1 hne2
          have hlen : 2 ≤ (leftOf seen es).length := by
            rcases hll : leftOf seen es with _ | ⟨a, _ | ⟨b, r⟩⟩
            · exact absurd hll hne1
            · exact absurd hll (hne2 a)
            · simp
          generalize hL : leftOf seen es = L at *
          obtain ⟨k, hk, hke⟩ : ∃ k, k < L.length ∧ (choose (Question.mapNext L.length)).run P w = .ok k w.drew := by
            refine ⟨_, cut_lt L.length (w.tape w.drawn (.mapNext L.length)) (by omega), ?_⟩
            rw [run_choose, if_neg (by simp [Question.forced]; omega)]
            rfl
          refine ⟨_, _, ρ, _, List.mem_map.2 ⟨L[k], List.getElem_mem hk, rfl⟩, hstep L[k] w.drew (Step.draw hR) rfl, hwfe L[k] (List.getElem_mem hk), ?_⟩
          rw [hrun]
          have hp := hpick k w.drew rfl L[k] (List.getElem?_eq_getElem hk)
          have hemp : ((L.map mk).toArray).isEmpty = false := by
            cases L with
            | nil => simp at hk
            | cons a r => rfl
          have hsz : (#[] ++ Array.map some ((L.map mk).toArray ++ #[]) : Array (Option MapEntry)).size = L.length := by simp
          have hget : (#[] ++ Array.map some ((L.map mk).toArray ++ #[]) : Array (Option MapEntry))[k]? = some (some (mk L[k])) := by simp [hk]
          simp only [hemp, Bool.false_eq_true, if_false, hsz, Sem.run_bind, hke, Result.andThen_ok, hget]
          rw [Sem.run_bind] at hp
          exact hp
      · trivial
    · trivial
  · trivial
end
end Go.Sx
