/- A part of a symbolic evaluator over the model and of the proof that it is right: 'SxS'. It holds for every program; no condition. -/
import Derived.Test.YtaebmdinecilbaaGreatDoorSxR
namespace Go.Sx

section
variable {P : Program} {ρ : Env} {st : St} {w : World}

/-! ## Lookups and updates of maps -/
def outLookup (commaOk : Bool) (v : V) (b : Bool) : V := bif commaOk then .tuple [v, .bool (.lit (b2i b))] else v

def mapOf (st : St) : V → Option (List (V × V × Nat))
  | .nilMap => some []
  | .map id => match st.h.get id with | some (.map es _) => some es | _ => none
  | _ => none

def doLookup (C : Ctx) (st : St) (ty : Nat) (x k : V) (commaOk : Bool) : OpR :=
  match C.ty.get ty with
  | some i => match i.und with
    | .map kt et => match mapOf st x, C.ty.get kt, C.ty.get et with
      | some es, some _, some j => bif keyPlain C 12 kt k then
          match findK C st.fc kt k es 0 with
          | some (some r) => .val (outLookup commaOk r.2 true) st
          | some none => match j.zero with
            | some z => .val (outLookup commaOk z false) st
            | none => .bad 230
          | none => .bad 231
        else .bad 232
      | _, _, _ => .bad 233
    | _ => .bad 234
  | none => .bad 235

theorem mapOf_spec (hR : Real ρ st w) {x : V} {es : List (V × V × Nat)} (h : mapOf st x = some es) :
    (∀ e ∈ es, e.1.wf st.nx ∧ e.2.1.wf st.nx) ∧
    (x.den ρ = .map none ∧ es = [] ∨ ∃ id clock, x = .map id ∧ st.h.get id = some (.map es clock) ∧ w.heap[ρ.b id]? = some (.map (es.map (mkE ρ)).toArray clock)) := by
  unfold mapOf at h
  split at h
  · simp at h; subst h; exact ⟨by simp, .inl ⟨rfl, rfl⟩⟩
  · rename_i id
    split at h
    · rename_i es' clock ho
      simp at h; subst h
      obtain ⟨h1, h2, obj, h3, h4⟩ := hR.obj id _ ho
      cases obj <;> simp only [ObRel] at h4
      obtain ⟨rfl, rfl⟩ := h4
      exact ⟨h2, .inr ⟨id, _, rfl, ho, h3⟩⟩
    · simp at h
  · simp at h

theorem outLookup_wf {n : Nat} {c b : Bool} {v : V} (h : v.wf n) : (outLookup c v b).wf n := by
  cases c
  · exact h
  · exact ⟨h, trivial, trivial⟩
theorem outLookup_den {c b : Bool} {v : V} : (outLookup c v b).den ρ = if c then .tuple #[v.den ρ, .bool b] else v.den ρ := by
  cases c
  · rfl
  · cases b <;> rfl

theorem doLookup_ok {C : Ctx} (hC : C.Ok P) (hR : Real ρ st w) (ty : Nat) {x k : V} (hk : k.wf st.nx) (commaOk : Bool) :
    VOk P ρ st w (Instr.lookup ty (x.den ρ) (k.den ρ) commaOk) (doLookup C st ty x k commaOk) := by
  unfold doLookup
  split
  · rename_i i hi
    have hT := hC.get hi
    split
    · rename_i kt et hu
      split
      · rename_i es ik j hm hik hj
        obtain ⟨hes, hm⟩ := mapOf_spec hR hm
        cases hp : keyPlain C 12 kt k
        · trivial
        simp only [cond_true]
        have hJ := hC.get hj
        have hck := checkKey_run (P := P) (ρ := ρ) (w := w) hC ((es.map (mkE ρ)).toArray).isEmpty 12 10000 kt k (by omega) hp _ hk
        have base : ∀ (r : Option (Nat × V)), findK C st.fc kt k es 0 = some r → ∀ (v : V) (b : Bool), (match (r.map fun x => (x.1, x.2.den ρ)) with
              | some (_, v) => pure (v, true)
              | none => (do pure (← zeroValue et, false)) : Sem (Value × Bool)).run P w = .ok (v.den ρ, b) w →
              (Instr.lookup ty (x.den ρ) (k.den ρ) commaOk).run P w = .ok ((outLookup commaOk v b).den ρ) w := by
          intro r hr v b hv
          have hf := findK_spec hC hR hk hik hes hr
          have fin : ∀ (arr : Array MapEntry), arr = (es.map (mkE ρ)).toArray → ((Instr.checkKey arr.isEmpty 10000 kt (k.den ρ)).run P w).andThen (fun _ w' =>
              ((Instr.findKey kt (k.den ρ) arr.toList).run P w').andThen fun a w' =>
              (match a with
                | some (_, v) => (do let x ← pure (v, true); pure (if commaOk = true then .tuple #[x.1, .bool x.2] else x.1) : Sem Value)
                | none => (do let z ← zeroValue et; let x ← pure (z, false); pure (if commaOk = true then .tuple #[x.1, .bool x.2] else x.1) : Sem Value)).run P w') = .ok ((outLookup commaOk v b).den ρ) w := by
            rintro _ rfl
            rw [outLookup_den, hck, Result.andThen_ok, hf, Result.andThen_ok]
            cases r with
            | none =>
              simp only [Option.map_none, Sem.run_bind] at hv ⊢
              cases hz : (zeroValue et).run P w <;> rw [hz] at hv <;> simp only [Result.andThen, Sem.run_pure] at hv ⊢
              · simp at hv
                obtain ⟨⟨rfl, rfl⟩, rfl⟩ := hv
                rfl
              all_goals simp at hv
            | some r =>
              simp only [Option.map_some, Sem.run_pure] at hv ⊢
              simp at hv
              rw [hv.1, ← hv.2]
              rfl
          rcases hm with ⟨h1, h2⟩ | ⟨id, clock, h1, h2, h3⟩
          · simp only [Instr.lookup, Sem.run_bind, hT.run_und, Result.andThen_ok, hu, h1, Sem.run_pure]
            exact fin #[] (by rw [h2]; rfl)
          · subst h1
            have hg := run_getObj (P := P) (w := w) h3 (by intro a b c h; simp at h)
            simp only [Instr.lookup, Sem.run_bind, hT.run_und, Result.andThen_ok, hu, V.den, hg, Sem.run_pure]
            exact fin _ rfl
        split
        · rename_i r hr
          refine VOk.same hR (outLookup_wf (findK_wf hes hr)) (base _ hr r.2 true rfl)
        · rename_i hr
          split
          · rename_i z hz
            obtain ⟨z1, z2⟩ := (hJ.run_zero w hz).2 ρ st.nx
            refine VOk.same hR (outLookup_wf z1) (base _ hr z false ?_)
            simp only [Option.map_none, Sem.run_bind, z2, Result.andThen_ok, Sem.run_pure]
          · trivial
        · trivial
      · trivial
    · trivial
  · trivial

def setNth {α : Type} : List α → Nat → (α → α) → List α
  | [], _, _ => []
  | a :: l, 0, f => f a :: l
  | a :: l, n + 1, f => a :: setNth l n f
theorem setNth_eq {α : Type} (f : α → α) : ∀ (l : List α) (n : Nat), setNth l n f = l.modify n f
  | [], _ => by simp [setNth]
  | _ :: _, 0 => by simp [setNth]
  | a :: l, n + 1 => by simp [setNth, setNth_eq f l n]

mutual
def plainBits : V → Bool
  | .bool _ | .int _ _ | .str _ | .ptr _ _ | .nilPtr | .nilIface => true
  | .iface _ v => plainBits v
  | .agg l => plainBitsL l
  | _ => false
def plainBitsL : List V → Bool
  | [] => true
  | v :: l => plainBits v && plainBitsL l
end

def depthV : V → Nat
  | _ => 0
/-- how deep a value is, at most f -/
def shallow : Nat → V → Bool
  | _, .bool _ | _, .int _ _ | _, .str _ | _, .ptr _ _ | _, .nilPtr | _, .nilIface => true
  | n + 1, .iface _ v => shallow n v
  | n + 1, .agg l => l.all (shallow n)
  | _, _ => false

theorem sameBits_refl : ∀ (n m : Nat) (v : V), n ≤ m → shallow n v = true → Instr.sameBits m (v.den ρ) (v.den ρ) = true
  | n, m, .bool _, _, _ => by simp [V.den, Instr.sameBits]
  | n, m, .int _ _, _, _ => by simp [V.den, Instr.sameBits]
  | n, m, .str s, _, _ => by simp only [V.den, Instr.sameBits]; show (s.toArray == s.toArray) = true; simp
  | n, m, .ptr _ _, _, _ => by simp [V.den, Instr.sameBits]
  | n, m, .nilPtr, _, _ => by simp [V.den, Instr.sameBits]
  | n, m, .nilIface, _, _ => by simp [V.den, Instr.sameBits]
  | _, _, .slice _ _ _ _, _, h | _, _, .nilSlice, _, h | _, _, .map _, _, h | _, _, .nilMap, _, h | _, _, .func _ _ _, _, h | _, _, .nilFunc, _, h | _, _, .tuple _, _, h | _, _, .opq _, _, h | _, _, .unk, _, h => by simp [shallow] at h
  | 0, _, .iface _ _, _, h => by simp [shallow] at h
  | 0, _, .agg _, _, h => by simp [shallow] at h
  | n + 1, 0, .iface _ _, h, _ => by omega
  | n + 1, 0, .agg _, h, _ => by omega
  | n + 1, m + 1, .iface t v, h, k => by
    simp only [shallow] at k
    simp only [V.den, Instr.sameBits, BEq.rfl, Bool.true_and]
    exact sameBits_refl n m v (by omega) k
  | n + 1, m + 1, .agg l, h, k => by
    simp only [shallow, List.all_eq_true] at k
    simp only [V.den, Instr.sameBits, BEq.rfl, Bool.true_and, V.denL_eq, List.all_eq_true]
    intro x hx
    rw [List.zip_eq_zipWith] at hx
    simp only [List.zipWith_map_left, List.zipWith_map_right] at hx
    obtain ⟨i, hi, he⟩ := List.getElem_of_mem hx
    simp only [List.getElem_zipWith] at he
    subst he
    exact sameBits_refl n m _ (by omega) (k _ (List.getElem_mem _))

def doMapUpdate (C : Ctx) (st : St) (ty : Nat) (x k v : V) : OpR :=
  match C.ty.get ty with
  | some i => match i.und, x with
    | .map kt _, .map id => match st.h.get id, C.ty.get kt with
      | some (.map es clock), some _ => bif keyPlain C 12 kt k && shallow 12 k then
          match findK C st.fc kt k es 0 with
          | some (some r) => .skip { st with h := st.h.set id (.map (setNth es r.1 fun e => (k, v, e.2.2)) clock) }
          | some none => .skip { st with h := st.h.set id (.map (es ++ [(k, v, clock)]) (clock + 1)) }
          | none => .bad 240
        else .bad 241
      | _, _ => .bad 242
    | _, _ => .bad 243
  | none => .bad 244

theorem findK_same {C : Ctx} (hC : C.Ok P) (hR : Real ρ st w) {kt : Nat} {k : V} (hk : k.wf st.nx) : ∀ {es : List (V × V × Nat)} {i : Nat} {r : Nat × V}, (∀ e ∈ es, e.1.wf st.nx ∧ e.2.1.wf st.nx) → findK C st.fc kt k es i = some (some r) → ∃ e, i ≤ r.1 ∧ es[r.1 - i]? = some e ∧ e.1 = k
  | [], i, r, _, h => by simp [findK] at h
  | e :: es, i, r, hes, h => by
    simp only [findK] at h
    split at h
    · rename_i hd
      simp at h; subst h
      exact ⟨e, Nat.le_refl _, by simp, ((keyDec_spec hC hR hd hk (hes e (List.mem_cons_self ..)).1).2.1 rfl).symm⟩
    · obtain ⟨e', h1, h2, h3⟩ := findK_same hC hR hk (fun x hx => hes x (List.mem_cons_of_mem _ hx)) h
      refine ⟨e', by omega, ?_, h3⟩
      have : r.1 - i = (r.1 - (i + 1)) + 1 := by omega
      rw [this]; simpa using h2
    · simp at h

theorem doMapUpdate_ok {C : Ctx} (hC : C.Ok P) (hR : Real ρ st w) (ty : Nat) {x k v : V} (hk : k.wf st.nx) (hv : v.wf st.nx) :
    UOk P ρ st w (Instr.mapUpdate ty (x.den ρ) (k.den ρ) (v.den ρ)) (doMapUpdate C st ty x k v) := by
  unfold doMapUpdate
  split
  · rename_i i hi
    have hT := hC.get hi
    split
    · rename_i kt et id hu
      split
      · rename_i es clock ik ho hik
        obtain ⟨h1, hes, obj, h3, h4⟩ := hR.obj id _ ho
        cases obj <;> simp only [ObRel] at h4
        obtain ⟨rfl, rfl⟩ := h4
        cases hp : (keyPlain C 12 kt k && shallow 12 k)
        · trivial
        simp only [Bool.and_eq_true] at hp
        simp only [cond_true]
        have hg := run_getObj (P := P) (w := w) h3 (by intro a b c h; simp at h)
        have hck := checkKey_run (P := P) (ρ := ρ) (w := w) hC false 12 10000 kt k (by omega) hp.1 _ hk
        have hset : ∀ obj', (setObj (ρ.b id) obj').run P w = _ := fun obj' => run_setObj (P := P) (w := w) (obj' := obj') h3 (by intro a b c h; simp at h)
        have hmk : (es.map fun e => ({ key := e.1.den ρ, val := e.2.1.den ρ, born := e.2.2 } : MapEntry)) = es.map (mkE ρ) := rfl
        rw [hmk] at hg
        split
        · rename_i r hr
          have hf := findK_spec hC hR hk hik hes hr
          obtain ⟨e, e1, e2, e3⟩ := findK_same hC hR hk hes hr
          rw [Nat.sub_zero] at e2
          refine ⟨ρ, _, Step.write hR ho rfl (o' := .map (setNth es r.1 fun e => (k, v, e.2.2)) _) (obj := .map ((setNth es r.1 fun e => (k, v, e.2.2)).map (mkE ρ)).toArray _) ⟨rfl, rfl⟩ ?_, ?_⟩
          · intro y hy
            obtain ⟨j, hj, hy⟩ := List.getElem_of_mem hy
            simp only [setNth_eq, List.getElem_modify] at hy
            split at hy
            · subst hy; exact ⟨hk, hv⟩
            · subst hy; exact hes _ (List.getElem_mem _)
          · simp only [V.den, Instr.mapUpdate, Sem.run_bind, hT.run_und, Result.andThen_ok, hu, hg, hck, hf, Option.map_some]
            have hkt : (Instr.keyThatStays (((((es.map (mkE ρ)).toArray)[r.1]?).map (·.key)).getD (k.den ρ)) (k.den ρ)).run P w = .ok (k.den ρ) w := by
              have : ((((es.map (mkE ρ)).toArray)[r.1]?).map (·.key)).getD (k.den ρ) = k.den ρ := by
                simp [e2, mkE, e3]
              rw [this, Instr.keyThatStays, if_pos (sameBits_refl 12 10000 k (by omega) hp.2)]
              rfl
            rw [hkt]
            simp only [Result.andThen_ok, hset]
            congr 3
            congr 1
            rw [setNth_eq]
            apply Array.ext'
            simp only [Array.toList_modify]
            apply List.ext_getElem?
            intro j
            simp only [List.getElem?_modify, List.getElem?_map]
            split
            · rename_i hj
              subst hj
              simp [e2, mkE]
            · simp
        · rename_i hr
          have hf := findK_spec hC hR hk hik hes hr
          refine ⟨ρ, _, Step.write hR ho rfl (o' := .map (es ++ [(k, v, _)]) _) (obj := .map ((es ++ [(k, v, _)]).map (mkE ρ)).toArray _) ⟨rfl, rfl⟩ ?_, ?_⟩
          · intro y hy
            rcases List.mem_append.1 hy with hy | hy
            · exact hes y hy
            · simp at hy; subst hy; exact ⟨hk, hv⟩
          · simp only [V.den, Instr.mapUpdate, Sem.run_bind, hT.run_und, Result.andThen_ok, hu, hg, hck, hf, Option.map_none, hset]
            congr 3
            congr 1
            simp [mkE]
        · trivial
      · trivial
    · trivial
  · trivial

def doClear (C : Ctx) (st : St) (ty : Nat) (x : V) : OpR :=
  match C.ty.get ty with
  | some i => match i.und, x with
    | .map _ _, .map id => match st.h.get id with
      | some (.map _ clock) => .val (.tuple []) { st with h := st.h.set id (.map [] clock) }
      | _ => .bad 250
    | _, .nilMap => .val (.tuple []) st
    | _, .nilSlice => .val (.tuple []) st
    | _, _ => .bad 251
  | none => .bad 252
theorem doClear_ok {C : Ctx} (hC : C.Ok P) (hR : Real ρ st w) (ty rty : Nat) (x : V) :
    VOk P ρ st w (Builtin.clear_ #[ty] rty #[x.den ρ]) (doClear C st ty x) := by
  unfold doClear
  split
  · rename_i i hi
    have hT := hC.get hi
    split
    · rename_i kt et id hu
      split
      · rename_i es clock ho
        obtain ⟨h1, hes, obj, h3, h4⟩ := hR.obj id _ ho
        cases obj <;> simp only [ObRel] at h4
        obtain ⟨rfl, rfl⟩ := h4
        have hg := run_getObj (P := P) (w := w) h3 (by intro a b c h; simp at h)
        have hset : ∀ obj', (setObj (ρ.b id) obj').run P w = _ := fun obj' => run_setObj (P := P) (w := w) (obj' := obj') h3 (by intro a b c h; simp at h)
        refine ⟨ρ, _, Step.write hR ho rfl (o' := .map [] _) (obj := .map #[] _) ⟨rfl, rfl⟩ (by intro e he; simp at he), trivial, ?_⟩
        simp [Builtin.clear_, V.den, V.denL, hT.run_und, hu, hg, hset]
      · trivial
    · refine VOk.same hR trivial ?_
      simp [Builtin.clear_, V.den, V.denL, hT.run_und]
    · refine VOk.same hR trivial ?_
      simp [Builtin.clear_, V.den, V.denL, hT.run_und]
    · trivial
  · trivial

def findBorn (n : Nat) : List (V × V × Nat) → Option (V × V × Nat)
  | [] => none
  | e :: l => bif Nat.beq e.2.2 n then some e else findBorn n l
def lastOf : List Nat → Option Nat
  | [] => none
  | [a] => some a
  | _ :: l => lastOf l
theorem lastOf_eq : ∀ l, lastOf l = l.getLast?
  | [] => rfl
  | [a] => rfl
  | a :: b :: l => by simp only [lastOf, lastOf_eq (b :: l), List.getLast?_cons_cons]
theorem findBorn_spec (n : Nat) : ∀ (l : List (V × V × Nat)), (l.map (mkE ρ)).find? (fun e => e.born == n) = (findBorn n l).map (mkE ρ) ∧ ∀ e, findBorn n l = some e → e ∈ l
  | [] => ⟨rfl, by simp [findBorn]⟩
  | e :: l => by
    obtain ⟨h1, h2⟩ := findBorn_spec n l
    simp only [findBorn, List.map_cons, List.find?_cons]
    cases hb : Nat.beq e.2.2 n
    · have : ((mkE ρ e).born == n) = false := by
        simp only [mkE, beq_eq_false_iff_ne]; intro he; rw [he] at hb; simp at hb
      rw [this]
      exact ⟨h1, fun x hx => List.mem_cons_of_mem _ (h2 x hx)⟩
    · have : ((mkE ρ e).born == n) = true := by
        have := Nat.eq_of_beq_eq_true hb
        simp [mkE, this]
      rw [this]
      exact ⟨rfl, fun x hx => by simp at hx; subst hx; exact List.mem_cons_self ..⟩

def doEntry (st : St) (x : V) : OpR :=
  match x with
  | .ptr id 0 => match st.h.get id with
    | some (.mapIter (some m) _ seen stepped) => match lastOf seen, st.h.get m with
      | some stamp, some (.map es clock) => bif Nat.beq clock stepped then
          (match findBorn stamp es with
          | some e => .val (.tuple [e.1, e.2.1]) st
          | none => .bad 260) else .bad 261
      | _, _ => .bad 262
    | _ => .bad 263
  | _ => .bad 264
theorem doEntry_ok (hR : Real ρ st w) (x : V) : VOk P ρ st w (Instr.entry (x.den ρ)) (doEntry st x) := by
  unfold doEntry
  split
  · rename_i id
    split
    · rename_i m since seen stepped ho
      split
      · rename_i stamp es clock hs hm
        obtain ⟨h1, h2, obj, h3, h4⟩ := hR.obj id _ ho
        cases obj <;> simp only [ObRel] at h4
        obtain ⟨rfl, rfl, rfl, rfl, h0⟩ := h4
        obtain ⟨m1, m2, mobj, m3, m4⟩ := hR.obj m _ hm
        cases mobj <;> simp only [ObRel] at m4
        obtain ⟨rfl, rfl⟩ := m4
        have hg := run_getObj (P := P) (w := w) h3 (by intro a b c h; simp at h)
        have hgm := run_getObj (P := P) (w := w) m3 (by intro a b c h; simp at h)
        rename_i clock stepped
        cases hb : Nat.beq stepped clock
        · trivial
        have := Nat.eq_of_beq_eq_true hb
        subst this
        simp only [cond_true]
        split
        · rename_i e he
          obtain ⟨f1, f2⟩ := findBorn_spec (ρ := ρ) stamp es
          have hmem := f2 e he
          refine VOk.same hR ⟨(m2 e hmem).1, (m2 e hmem).2, trivial⟩ ?_
          have hd : (V.ptr id 0).den ρ = .pointer (some ⟨ρ.b id, 0, none⟩) := by simp [V.den, h0]
          rw [hd]
          have hback : (seen.toArray).back? = some stamp := by rw [lastOf_eq] at hs; simpa using hs
          have hfind : ((es.map fun e => ({ key := e.1.den ρ, val := e.2.1.den ρ, born := e.2.2 } : MapEntry)).toArray).find? (fun e => e.born == stamp) = some (mkE ρ e) := by
            rw [List.find?_toArray]
            have := f1
            rw [he] at this
            exact this
          simp only [Instr.entry, Sem.run_bind, hg, Result.andThen_ok, Option.map_some, hback, hgm, bne_self_eq_false, Bool.false_eq_true, if_false, hfind]
          rfl
        · trivial
      · trivial
    · trivial
  · trivial
end
end Go.Sx
