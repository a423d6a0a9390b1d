/- A part of a symbolic evaluator over the model and of the proof that it is right: 'SxN'. It holds for every program; no condition. -/
import Derived.Test.YtaebmdinecilbaaGreatDoorSxM
import Derived.Laws.Append
namespace Go.Sx

section
variable {P : Program} {ρ : Env} {st : St} {w : World}

/-! ## append -/
/-- where the new elements come from: how many, and their cells -/
def srcCells (st : St) (size : Nat) (x : V) : Option (Nat × List V) :=
  match x with
  | .nilSlice => some (0, [])
  | .slice id off len _ => match st.h.get id with
    | some (.cells _ cs _) => match takeN (Nat.mul len size) (dropN off cs) with
      | some r => some (len, r)
      | none => none
    | _ => none
  | .str s => bif Nat.beq size 1 then some (s.length, s.map fun c => .int .u8 (.lit c.toNat)) else none
  | _ => none

def Src (P : Program) (ρ : Env) (w : World) (size : Nat) (v : Value) (n : Nat) (l : List V) : Prop :=
  (Builtin.lenOf v).run P w = .ok n w ∧ ∀ w' : World, w'.heap = w.heap → (Builtin.firstCells size n v).run P w' = .ok (V.denL ρ l).toArray w'

theorem Real.heap {w' : World} (h : Real ρ st w) (e : w'.heap = w.heap) : Real ρ st w' :=
  ⟨fun id o ho => by rw [e]; exact h.obj id o ho, h.inj, h.fc, h.fw⟩

theorem cells_run (hR : Real ρ st w) {id : Nat} {rw : Bool} {cs : List V} {sz : Option Tm} (ho : st.h.get id = some (.cells rw cs sz)) {off n : Nat} {r : List V} (h : takeN n (dropN off cs) = some r) :
    V.wfL st.nx r ∧ (∀ v ∈ r, v.one = true) ∧ r.length = n ∧ ∀ w' : World, w'.heap = w.heap → (loadCells ⟨ρ.b id, ρ.o id + off, none⟩ n).run P w' = .ok (V.denL ρ r).toArray w' := by
  obtain ⟨h1, h2, h3⟩ := takeN_spec h
  rw [dropN_eq] at h3
  have hc : ∀ j x, r[j]? = some x → (∀ w' : World, w'.heap = w.heap → w'.cell? ⟨ρ.b id, ρ.o id + off + j, none⟩ = some (x.den ρ)) ∧ x.wf st.nx := fun j x hj => by
    have := h3 j x hj
    rw [List.getElem?_drop] at this
    refine ⟨fun w' e => ?_, (cell_of hR ho this (V.one_ne (h2 x (mem_of_getElem? hj)))).2⟩
    rw [Nat.add_assoc]
    exact (cell_of (hR.heap e) ho this (V.one_ne (h2 x (mem_of_getElem? hj)))).1
  refine ⟨(V.wfL_iff _ _).2 fun x hx => ?_, h2, h1, fun w' e => ?_⟩
  · obtain ⟨j, hj⟩ := List.getElem?_of_mem hx
    exact (hc j x hj).2
  · have := run_loadCells_of (P := P) (w := w') (b := ρ.b id) (o := ρ.o id + off) n 0 (V.denL ρ r) #[] (by rw [V.denL_eq]; simpa using h1) (fun j x hj => by
      rw [V.denL_eq, List.getElem?_map, Option.map_eq_some_iff] at hj
      obtain ⟨y, hy, rfl⟩ := hj
      exact (hc j y hy).1 w' e)
    rw [loadCells, this]; simp

theorem srcCells_spec (hR : Real ρ st w) {size n : Nat} {x : V} {l : List V} (h : srcCells st size x = some (n, l)) :
    Src P ρ w size (x.den ρ) n l ∧ V.wfL st.nx l ∧ (∀ v ∈ l, v.one = true) ∧ l.length = n * size := by
  unfold srcCells at h
  split at h
  · simp at h; obtain ⟨rfl, rfl⟩ := h
    exact ⟨⟨rfl, fun _ _ => rfl⟩, trivial, by simp, by simp⟩
  · rename_i id off len cap
    split at h
    · rename_i rw cs sz ho
      split at h
      · rename_i r hr
        simp at h; obtain ⟨rfl, rfl⟩ := h
        obtain ⟨h1, h2, h3, h4⟩ := cells_run (P := P) hR ho hr
        exact ⟨⟨rfl, fun w' e => h4 w' e⟩, h1, h2, h3⟩
      · simp at h
    · simp at h
  · rename_i s
    cases hs : Nat.beq size 1 <;> simp [hs] at h
    obtain ⟨rfl, rfl⟩ := h
    have := Nat.eq_of_beq_eq_true hs
    subst this
    refine ⟨⟨?_, fun w' _ => ?_⟩, ?_, ?_, by simp⟩
    · simp [Builtin.lenOf, V.den, ByteArray.size]
    · simp only [Builtin.firstCells, V.den, Sem.run_pure]
      congr 1
      rw [ByteArray.data_extract]
      apply Array.ext'
      simp [V.denL_eq, V.den]
    · rw [V.wfL_iff]; intro v hv; simp at hv; obtain ⟨c, _, rfl⟩ := hv; trivial
    · intro v hv; simp at hv; obtain ⟨c, _, rfl⟩ := hv; rfl
  · simp at h

section runs
variable {t u ty e : Nat} {i : TypeInfo} (ht : P.underlying t = some (.slice e)) (hu : ∃ d, P.underlying u = some d ∧ ((∃ x, d = .slice x) ∨ d = .string)) (hi : P.info? e = some i)
  {base : Option Addr} {sLen sCap : Nat} {x : Value} {n : Nat} {news : List V} (hx : Src P ρ w i.size x n news)
include ht hu hi hx
/-- there is room -/
theorem run_append_fits' (hroom : sLen + n ≤ sCap) :
    (Builtin.append_ #[t, u] ty #[.slice base sLen sCap, x]).run P w =
      ((match base with
        | some a => storeCells (a.add (sLen * i.size)) (V.denL ρ news)
        | none => pure () : Sem Unit).run P w).andThen fun _ w' => .ok (.slice base (sLen + n) sCap) w' := by
  obtain ⟨d, hd, hd'⟩ := hu
  obtain ⟨h1, h2⟩ := hx
  have h2' := h2 w rfl
  rcases hd' with ⟨y, rfl⟩ | rfl
  all_goals
    cases base <;>
    simp [Builtin.append_, run_underlying ht, run_underlying hd, sizeOf, typeInfo, hi, h1, hroom, h2']
    try (cases (storeCells _ (V.denL ρ news)).run P w <;> rfl)
/-- a new array is made -/
theorem run_append_grows' {z : Value} (hz : i.zero = some z) {olds : List V} (hold : ∀ w' : World, w'.heap = w.heap → (Builtin.firstCells i.size sLen (.slice base sLen sCap)).run P w' = .ok (V.denL ρ olds).toArray w')
    (hg : sCap < sLen + n) (h63 : ((sLen + n : Nat) : Int) ≤ 9223372036854775807) (hfit : (sLen + n) * i.bytes ≤ 140737488355328) :
    (Builtin.append_ #[t, u] ty #[.slice base sLen sCap, x]).run P w =
      .ok (.slice (some ⟨w.heap.size, 0, none⟩) (sLen + n) (grownCap w (sLen + n) sCap e))
        (w.drew.alloc (.cells ((V.denL ρ olds).toArray ++ (V.denL ρ news).toArray ++ Builtin.zeroCells z.cells (grownCap w (sLen + n) sCap e - (sLen + n))) e)) := by
  obtain ⟨d, hd, hd'⟩ := hu
  obtain ⟨h1, h2⟩ := hx
  have hn : ¬ (sLen + n ≤ sCap) := by omega
  have h63' : ¬ (9223372036854775807 < ((sLen : Int) + (n : Int))) := by omega
  have hfit' := growslice_fits hg hfit
  have h48' : ¬ (281474976710656 < Builtin.nextslicecap (sLen + n) sCap * i.bytes) := by omega
  have hf := h2 w.drew rfl
  have hfo := hold w.drew rfl
  rcases hd' with ⟨y, rfl⟩ | rfl
  all_goals
    simp [Builtin.append_, run_underlying ht, run_underlying hd, sizeOf, typeInfo, zeroValue, hi, hz, h1, hn, h63', h48', Question.forced, hf, hfo, newRow, grownCap]
    congr 2
    apply Array.ext'
    simp
end runs

def growCells (st : St) (keep : Tr Ob) (size need : Nat) (l : List V) : OpR :=
  .val (.slice st.nx 0 need (.var (Nat.succ st.nx)))
    { h := keep.set st.nx (.cells true l (some (.mul (.var (Nat.succ st.nx)) (.lit size)))), nx := Nat.succ (Nat.succ st.nx), fc := (.var (Nat.succ st.nx), need, 9223372036854775807) :: st.fc }

def under (fc : Facts) (t : Tm) (n : Int) : Bool :=
  match rng fc t with
  | some (_, q) => Z.le q n
  | none => false
theorem under_ok {fc : Facts} (hf : FactsOk ρ fc) {n : Int} {t : Tm} (h : under fc t n = true) : t.den ρ ≤ n := by
  unfold under at h
  have := rng_sound hf t
  split at h
  · rename_i p q e; rw [e] at this; simp only [InR] at this; have := (Z.le_iff _ _).1 h; omega
  · simp at h

def isStrSl : TypeDesc → Bool
  | .slice _ | .string => true
  | _ => false

def doAppend (C : Ctx) (st : St) (sT xT : Nat) (s x : V) : OpR :=
  match C.ty.get sT, C.ty.get xT with
  | some i, some j => match i.und, i.el, isStrSl j.und with
    | .slice _, some y, true => match C.ty.get y.ty with
      | some k => match k.zero, srcCells st y.size x with
        | some z, some (n, news) => match z.cellsL with
          | some zl => bif Nat.beq zl.length y.size then (match s with
            | .nilSlice => bif Nat.beq n 0 then .val .nilSlice st
              else bif Nat.ble (Nat.mul n k.bytes) 1000000000 && Nat.ble n 1000000000 then growCells st st.h y.size n news else .bad 120
            | .slice id off len cap => bif Nat.beq n 0 && atMost st.fc len cap then .val (.slice id off len cap) st
              else bif atMost st.fc (Nat.add len n) cap then (match wr st.h id (Nat.add off (Nat.mul len y.size)) news with
                | some h => .val (.slice id off (Nat.add len n) cap) { st with h := h }
                | none => .bad 121)
              else bif Nat.ble (Nat.mul (Nat.add len n) k.bytes) 1000000000 && Nat.ble (Nat.add len n) 1000000000 then (match st.h.get id with
                | some (.cells rw cs sz) => match takeN (Nat.mul len y.size) (dropN off cs) with
                  | some olds => bif under st.fc cap (Int.ofNat (Nat.add len n) - 1) && Nat.ble 1 (Nat.add len n) then growCells st st.h y.size (Nat.add len n) (olds ++ news)
                    else match sz with
                      | some szt => bif rw && Nat.beq off 0 && szt.beq (.mul cap (.lit y.size)) && under st.fc cap 9223372036854775807 && atMost st.fc 0 cap then
                          growCells st (st.h.del id) y.size (Nat.add len n) (olds ++ news) else .bad 122
                      | none => .bad 123
                  | none => .bad 124
                | _ => .bad 125) else .bad 126
            | _ => .bad 127) else .bad 128
          | none => .bad 129
        | _, _ => .bad 130
      | none => .bad 131
    | _, _, _ => .bad 132
  | _, _ => .bad 133

theorem grownCap_bounds (w : World) {need old : Nat} (e : TypeId) (h : need ≤ 1000000000) : need ≤ grownCap w need old e ∧ grownCap w need old e ≤ 9223372036854775807 := by
  unfold grownCap Question.cut
  dsimp only
  have : (w.tape w.drawn (.appendCap need old e)) % (2 ^ 63 - need) < 2 ^ 63 - need := Nat.mod_lt _ (by omega)
  omega

theorem wfL_append {n : Nat} {a b : List V} (ha : V.wfL n a) (hb : V.wfL n b) : V.wfL n (a ++ b) := by
  rw [V.wfL_iff] at *
  intro v hv
  rcases List.mem_append.1 hv with h | h
  · exact ha v h
  · exact hb v h

/-- a new array behind append -/
theorem grow_step (hR : Real ρ st w) {size need cap : Nat} {l : List V} (hl : V.wfL st.nx l) (hc1 : need ≤ cap) (hc2 : cap ≤ 9223372036854775807) {arr : Array Value} {ty : TypeId}
    (hcells : ∀ (i : Nat) (v : V), l[i]? = some v → arr[i]? = some (v.den ρ)) (hsz : arr.size = cap * size) (hlen : l.length ≤ arr.size) :
    ∃ st', growCells st st.h size need l = .val (.slice st.nx 0 need (.var (Nat.succ st.nx))) st' ∧
      Step ρ st w ((ρ.setB st.nx w.heap.size 0).setI (st.nx + 1) cap) st' (w.alloc (.cells arr ty)) ∧
      (V.slice st.nx 0 need (.var (Nat.succ st.nx))).wf st'.nx ∧
      (V.slice st.nx 0 need (.var (Nat.succ st.nx))).den ((ρ.setB st.nx w.heap.size 0).setI (st.nx + 1) cap) = .slice (some ⟨w.heap.size, 0, none⟩) need cap := by
  refine ⟨_, rfl, ?_, ⟨by simp; omega, by simp⟩, by simp [V.den, Env.setB, Env.setI]⟩
  have ha : Env.agree st.nx ρ ((ρ.setB st.nx w.heap.size 0).setI (st.nx + 1) cap) := Env.agree_setB.trans (Env.agree_setI.mono (Nat.le_succ _))
  have s1 := Step.push (w := w) hR (.cells arr ty)
  have s2 := Step.extend s1.real ha (n := st.nx + 2) (by omega)
  have hb0 : ∀ id o', st.h.get id = some o' → ρ.b id ≠ w.heap.size := fun id o' ho' => Nat.ne_of_lt (hR.lt ho')
  have hnx : ∀ id o', st.h.get id = some o' → id < st.nx := fun id o' ho' => (hR.obj id o' ho').1
  refine ⟨ha, by show st.nx ≤ st.nx + 2; omega, ⟨?_, ?_, ?_, ?_⟩, rfl, rfl, rfl, by simp, s1.keep, ?_, ?_⟩
  · intro id o ho
    rcases Tr.get_set ho with ⟨rfl, rfl⟩ | ⟨hne, ho⟩
    · refine ⟨by show st.nx < st.nx + 2; omega, ⟨V.wfL_mono (by show st.nx ≤ st.nx + 2; omega) hl, ?_⟩, .cells arr ty, ?_, ?_, ?_, ?_, fun _ => rfl⟩
      · intro t ht; simp at ht; subst ht; exact ⟨by show st.nx + 1 < st.nx + 2; omega, trivial⟩
      · rw [show ((ρ.setB st.nx w.heap.size 0).setI (st.nx + 1) cap).b st.nx = w.heap.size by simp [Env.setB, Env.setI]]
        show (w.heap.push _)[w.heap.size]? = _
        simp
      · intro i v hi hv
        have hw := (V.wfL_iff _ _).1 hl v (mem_of_getElem? hi)
        rw [← V.den_agree ha hw]
        simpa [Env.setB, Env.setI] using hcells i v hi
      · simpa [Env.setB, Env.setI] using hlen
      · intro t ht; simp at ht; subst ht
        simp [Env.setB, Env.setI, hsz]
        rw [← Int.natCast_mul, Int.toNat_natCast]
    · obtain ⟨h1, h2, obj, h3, h4⟩ := s2.real.obj id o ho
      exact ⟨h1, h2, obj, h3, h4⟩
  · intro id id' o o' ho ho' hne hrw
    rcases Tr.get_set ho with ⟨rfl, rfl⟩ | ⟨g1, ho⟩ <;> rcases Tr.get_set ho' with ⟨rfl, rfl⟩ | ⟨g2, ho'⟩
    · exact absurd rfl hne
    · have := hb0 id' o' ho'
      simp only [Env.setB, Env.setI, if_true, if_neg g2]; exact Ne.symm this
    · have := hb0 id o ho
      simp only [Env.setB, Env.setI, if_true, if_neg g1]; exact this
    · exact s2.real.inj id id' o o' ho ho' hne hrw
  · intro f hf
    rcases List.mem_cons.1 hf with rfl | hf
    · simp [Env.setI]; omega
    · exact s2.real.fc f hf
  · exact FactsWf.cons s2.real.fw (by show st.nx + 1 < st.nx + 2; omega)
  · rintro k ⟨id, o, ho, hr, hb⟩
    rcases Tr.get_set ho with ⟨rfl, rfl⟩ | ⟨g1, ho⟩
    · right; simp [Env.setB, Env.setI] at hb; omega
    · left; refine ⟨id, o, ho, hr, ?_⟩; rw [← hb]; simp [Env.setB, Env.setI, g1]
  · rintro k ⟨id, o, ho, hb⟩
    rcases Tr.get_set ho with ⟨rfl, rfl⟩ | ⟨g1, ho⟩
    · right; simp [Env.setB, Env.setI] at hb; omega
    · left; refine ⟨id, o, ho, ?_⟩; rw [← hb]; simp [Env.setB, Env.setI, g1]

/-- a slice's array, put under another name with what is known of it -/
theorem rename_step (hR : Real ρ st w) {id : Nat} {cs : List V} {sz : Option Tm} {arr : Array Value} {ty : TypeId} (ho : st.h.get id = some (.cells true cs sz))
    {size need cap : Nat} {l : List V} (hl : V.wfL st.nx l) (hc1 : need ≤ cap) (hc2 : cap ≤ 9223372036854775807)
    (hcells : ∀ (i : Nat) (v : V), l[i]? = some v → arr[ρ.o id + i]? = some (v.den ρ)) (hsz : arr.size = ρ.o id + cap * size) (hlen : ρ.o id + l.length ≤ arr.size) :
    ∃ st', growCells st (st.h.del id) size need l = .val (.slice st.nx 0 need (.var (Nat.succ st.nx))) st' ∧
      Step ρ st w ((ρ.setB st.nx (ρ.b id) (ρ.o id)).setI (st.nx + 1) cap) st' { w with heap := w.heap.setIfInBounds (ρ.b id) (.cells arr ty (0, 0)) } ∧
      (V.slice st.nx 0 need (.var (Nat.succ st.nx))).wf st'.nx ∧
      (V.slice st.nx 0 need (.var (Nat.succ st.nx))).den ((ρ.setB st.nx (ρ.b id) (ρ.o id)).setI (st.nx + 1) cap) = .slice (some ⟨ρ.b id, ρ.o id, none⟩) need cap := by
  refine ⟨_, rfl, ?_, ⟨by simp; omega, by simp⟩, by simp [V.den, Env.setB, Env.setI]⟩
  have ha : Env.agree st.nx ρ ((ρ.setB st.nx (ρ.b id) (ρ.o id)).setI (st.nx + 1) cap) := Env.agree_setB.trans (Env.agree_setI.mono (Nat.le_succ _))
  have s1 := Step.write hR ho rfl (o' := .cells true (List.replicate 0 .unk) none) (obj := .cells arr ty (0, 0)) ⟨by intro i v hi; simp at hi, by simp; omega, by intro t ht; simp at ht, fun _ => rfl⟩ ⟨trivial, by intro t ht; simp at ht⟩
  have s2 := s1.trans (Step.forget s1.real id)
  have s3 := s2.trans (Step.extend s2.real ha (n := st.nx + 2) (by show st.nx ≤ st.nx + 2; omega))
  have hlt := hR.lt ho
  refine ⟨ha, by show st.nx ≤ st.nx + 2; omega, ⟨?_, ?_, ?_, ?_⟩, rfl, rfl, rfl, by simp, s1.keep, ?_, ?_⟩
  · intro j o hj
    rcases Tr.get_set hj with ⟨rfl, rfl⟩ | ⟨hne, hj⟩
    · refine ⟨by show st.nx < st.nx + 2; omega, ⟨V.wfL_mono (by show st.nx ≤ st.nx + 2; omega) hl, ?_⟩, .cells arr ty (0, 0), ?_, ?_, ?_, ?_, fun _ => rfl⟩
      · intro t ht; simp at ht; subst ht; exact ⟨by show st.nx + 1 < st.nx + 2; omega, trivial⟩
      · simp [Env.setB, Env.setI, hlt]
      · intro i v hi hv
        have hw := (V.wfL_iff _ _).1 hl v (mem_of_getElem? hi)
        rw [← V.den_agree ha hw]
        simpa [Env.setB, Env.setI] using hcells i v hi
      · simpa [Env.setB, Env.setI] using hlen
      · intro t ht; simp at ht; subst ht
        simp [Env.setB, Env.setI, hsz]
        rw [← Int.natCast_mul, Int.toNat_natCast]
    · obtain ⟨gne, hj⟩ := Tr.get_del hj
      obtain ⟨h1, h2, obj, h3, h4⟩ := hR.obj j o hj
      refine ⟨by show j < st.nx + 2; omega, Ob.wf_mono (by show st.nx ≤ st.nx + 2; omega) h2, obj, ?_, h4.agree ha h1 h2⟩
      rw [← (ha j h1).2.1]
      show (w.heap.setIfInBounds _ _)[_]? = _
      rw [Array.getElem?_setIfInBounds_ne (Ne.symm (hR.inj j id o _ hj ho gne (.inr rfl)))]
      exact h3
  · intro j j' o o' hj hj' hne hrw
    rcases Tr.get_set hj with ⟨rfl, rfl⟩ | ⟨g1, hj⟩ <;> rcases Tr.get_set hj' with ⟨rfl, rfl⟩ | ⟨g2, hj'⟩
    · exact absurd rfl hne
    · obtain ⟨q, hj'⟩ := Tr.get_del hj'
      simp only [Env.setB, Env.setI, if_true, if_neg g2]; exact hR.inj id j' _ o' ho hj' (Ne.symm q) (.inl rfl)
    · obtain ⟨q, hj⟩ := Tr.get_del hj
      simp only [Env.setB, Env.setI, if_true, if_neg g1]; exact hR.inj j id o _ hj ho q (.inr rfl)
    · obtain ⟨q, hj⟩ := Tr.get_del hj
      obtain ⟨q', hj'⟩ := Tr.get_del hj'
      rw [← (ha j (hR.obj j o hj).1).2.1, ← (ha j' (hR.obj j' o' hj').1).2.1]
      exact hR.inj j j' o o' hj hj' hne hrw
  · intro f hf
    rcases List.mem_cons.1 hf with rfl | hf
    · simp [Env.setI]; omega
    · exact s3.real.fc f hf
  · exact FactsWf.cons s3.real.fw (by show st.nx + 1 < st.nx + 2; omega)
  · rintro k ⟨j, o, hj, hr, hb⟩
    rcases Tr.get_set hj with ⟨rfl, rfl⟩ | ⟨g1, hj⟩
    · left; refine ⟨id, _, ho, rfl, ?_⟩; simpa [Env.setB, Env.setI] using hb
    · obtain ⟨q, hj⟩ := Tr.get_del hj
      left; refine ⟨j, o, hj, hr, ?_⟩; rw [← hb, ← (ha j (hR.obj j o hj).1).2.1]
  · rintro k ⟨j, o, hj, hb⟩
    rcases Tr.get_set hj with ⟨rfl, rfl⟩ | ⟨g1, hj⟩
    · left; refine ⟨id, _, ho, ?_⟩; simpa [Env.setB, Env.setI] using hb
    · obtain ⟨q, hj⟩ := Tr.get_del hj
      left; refine ⟨j, o, hj, ?_⟩; rw [← hb, ← (ha j (hR.obj j o hj).1).2.1]

theorem zc_size (z : Array Value) (n : Nat) : (Builtin.zeroCells z n).size = n * z.size := by simp [Builtin.zeroCells]

theorem doAppend_ok {C : Ctx} (hC : C.Ok P) (hR : Real ρ st w) (sT xT rty : Nat) {s x : V} (hs : s.wf st.nx) :
    VOk P ρ st w (Builtin.append_ #[sT, xT] rty #[s.den ρ, x.den ρ]) (doAppend C st sT xT s x) := by
  unfold doAppend
  split
  · rename_i i j hi hj
    have hT := hC.get hi
    have hJ := hC.get hj
    split
    · rename_i e' y hu hy hstr
      obtain ⟨e, he, hf⟩ := hT.el y hy
      have hu' : i.und = .slice e := by
        rcases he with h | h
        · exact h
        · rw [hu] at h; simp at h
      obtain ⟨ey, _, _, ii, dd, q1, q2, q3, q4⟩ := mkFI_spec hf
      have ht : P.underlying sT = some (.slice e) := by rw [hT.und, hu']
      have hxT : ∃ d, P.underlying xT = some d ∧ ((∃ x, d = .slice x) ∨ d = .string) := by
        refine ⟨j.und, hJ.und, ?_⟩
        cases hd : j.und <;> simp [hd, isStrSl] at hstr ⊢
      split
      · rename_i k hk
        have hK := hC.get hk
        rw [ey] at hK
        obtain ⟨k1, k2, k3, k4, k5⟩ := hK.info
        rw [q1] at k2; simp at k2; subst k2
        split
        · rename_i z n news hz hsrc
          rw [← q3] at hsrc
          obtain ⟨hSrc, n1, n2, n3⟩ := srcCells_spec (P := P) (w := w) hR hsrc
          split
          · rename_i zl hzl
            obtain ⟨z1, z2, z3⟩ := V.cellsL_spec hzl
            cases hzb : Nat.beq zl.length y.size
            · trivial
            have hzl' := Nat.eq_of_beq_eq_true hzb
            have hz0 : ii.zero = some (z.den ρ) := by
              cases hzz : ii.zero with
              | none => rw [hzz] at k5; simp [hz] at k5
              | some u => rw [hzz, Option.bind_some, hz] at k5; rw [ofVal_den k5]
            have hzc : ∀ m, (Builtin.zeroCells (z.den ρ).cells m).size = m * ii.size := by
              intro m; rw [zc_size, z3 ρ]; simp [V.denL_eq, hzl', q3]
            simp only [cond_true]
            split
            · cases hn0 : Nat.beq n 0
              · cases hb : (Nat.ble (Nat.mul n k.bytes) 1000000000 && Nat.ble n 1000000000)
                · trivial
                · simp only [Bool.and_eq_true] at hb
                  have b1 : n * k.bytes ≤ 1000000000 := Nat.le_of_ble_eq_true hb.1
                  have b2 : n ≤ 1000000000 := Nat.le_of_ble_eq_true hb.2
                  have hn : n ≠ 0 := by intro e; rw [e] at hn0; simp at hn0
                  simp only [cond_true, cond_false]
                  have hrun := run_append_grows' (t := sT) (u := xT) (ty := rty) (e := e) (base := none) (sLen := 0) (sCap := 0) ht hxT q1 hSrc hz0 (olds := []) (fun w' _ => rfl) (by omega) (by omega) (by rw [k4, Nat.zero_add]; omega)
                  have hcap := grownCap_bounds w (need := 0 + n) (old := 0) e (by omega)
                  rw [Nat.zero_add] at hrun hcap
                  obtain ⟨st', e1, e2, e3, e4⟩ := grow_step (w := w.drew) (size := ii.size) (need := n) (cap := grownCap w n 0 e) (l := news) (ty := e) (hR.heap rfl) n1 hcap.1 hcap.2 (arr := ((V.denL ρ []).toArray ++ (V.denL ρ news).toArray ++ Builtin.zeroCells (z.den ρ).cells (grownCap w n 0 e - n))) (by
                    intro i v hi
                    have hlt : i < news.length := (List.getElem?_eq_some_iff.1 hi).1
                    simp only [V.denL, Array.empty_append]
                    rw [Array.getElem?_append_left (by simpa [V.denL_eq] using hlt)]
                    simp [V.denL_eq, hi]) (by
                    simp only [V.denL, Array.size_append, hzc]
                    simp [V.denL_eq, n3]
                    rw [← Nat.add_mul]; congr 1; omega) (by
                    simp [V.denL_eq])
                  rw [← q3, e1]
                  exact ⟨_, _, (Step.draw hR).trans e2, e3, by rw [e4]; exact hrun⟩
              · have := Nat.eq_of_beq_eq_true hn0
                subst this
                refine VOk.same hR trivial ?_
                have := run_append_fits' (t := sT) (u := xT) (ty := rty) (e := e) (base := none) (sLen := 0) (sCap := 0) ht hxT q1 hSrc (by omega)
                show Sem.run P (Builtin.append_ #[sT, xT] rty #[Value.slice none 0 0, V.den ρ x]) w = Result.ok (Value.slice none 0 0) w
                simpa using this
            · rename_i id off len cap
              cases hc0 : (Nat.beq n 0 && atMost st.fc len cap)
              · simp only [cond_false]
                cases hroom : atMost st.fc (Nat.add len n) cap
                · simp only [cond_false]
                  cases hb : (Nat.ble (Nat.mul (Nat.add len n) k.bytes) 1000000000 && Nat.ble (Nat.add len n) 1000000000)
                  · trivial
                  simp only [Bool.and_eq_true] at hb
                  have b1 : (len + n) * k.bytes ≤ 1000000000 := Nat.le_of_ble_eq_true hb.1
                  have b2 : len + n ≤ 1000000000 := Nat.le_of_ble_eq_true hb.2
                  simp only [cond_true]
                  split
                  · rename_i rwb cs sz ho
                    split
                    · rename_i olds holds
                      have holds' : takeN (len * ii.size) (dropN off cs) = some olds := by rw [q3]; exact holds
                      obtain ⟨o1, o2, o3, o4⟩ := cells_run (P := P) hR ho holds'
                      obtain ⟨g1, g2, obj, g3, g4⟩ := hR.obj id _ ho
                      have hwl : V.wfL st.nx (olds ++ news) := wfL_append o1 n1
                      have hll : (olds ++ news).length = (len + n) * ii.size := by rw [List.length_append, o3, n3, Nat.add_mul]
                      have hA : (V.denL ρ olds).toArray ++ (V.denL ρ news).toArray = (V.denL ρ (olds ++ news)).toArray := by simp [V.denL_eq]
                      have grown : ∀ st1 : St, Step ρ st w ρ st1 w → st1.nx = st.nx → (cap.den ρ).toNat < len + n →
                          VOk P ρ st w (Builtin.append_ #[sT, xT] rty #[(V.slice id off len cap).den ρ, x.den ρ]) (growCells st1 st1.h y.size (Nat.add len n) (olds ++ news)) := by
                        intro st1 hst1 hnx1 hlt
                        have hrun := run_append_grows' (t := sT) (u := xT) (ty := rty) (e := e) (base := some ⟨ρ.b id, ρ.o id + off, none⟩) (sLen := len) (sCap := (cap.den ρ).toNat) ht hxT q1 hSrc hz0 (olds := olds) (fun w' e' => o4 w' e') hlt (by omega) (by rw [k4]; omega)
                        have hcap := grownCap_bounds w (need := len + n) (old := (cap.den ρ).toNat) e b2
                        obtain ⟨st', e1, e2, e3, e4⟩ := grow_step (w := w.drew) (size := ii.size) (need := len + n) (cap := grownCap w (len + n) (cap.den ρ).toNat e) (l := olds ++ news) (ty := e) (hst1.real.heap rfl) (by rw [hnx1]; exact hwl) hcap.1 hcap.2
                          (arr := ((V.denL ρ olds).toArray ++ (V.denL ρ news).toArray ++ Builtin.zeroCells (z.den ρ).cells (grownCap w (len + n) (cap.den ρ).toNat e - (len + n)))) (by
                          intro i v hi
                          have hlt : i < (olds ++ news).length := (List.getElem?_eq_some_iff.1 hi).1
                          rw [hA, Array.getElem?_append_left (by simpa [V.denL_eq] using hlt)]
                          simp only [V.denL_eq, List.getElem?_toArray, List.getElem?_map, hi, Option.map_some]) (by
                          rw [hA, Array.size_append, hzc]
                          simp only [V.denL_eq, List.size_toArray, List.length_map, hll]
                          rw [← Nat.add_mul]; congr 1; omega) (by
                          rw [hA, Array.size_append]
                          simp only [V.denL_eq, List.size_toArray, List.length_map]; omega)
                        have e1' : growCells st1 st1.h y.size (Nat.add len n) (olds ++ news) = OpR.val (V.slice st1.nx 0 (len + n) (Tm.var st1.nx.succ)) st' := by rw [← q3]; exact e1
                        rw [e1']
                        exact ⟨_, _, (hst1.trans (Step.draw hst1.real)).trans e2, e3, by rw [e4]; exact hrun⟩
                      cases hun : (under st.fc cap (Int.ofNat (Nat.add len n) - 1) && Nat.ble 1 (Nat.add len n))
                      · simp only [cond_false]
                        split
                        · rename_i szt
                          cases hb4 : (rwb && Nat.beq off 0 && szt.beq (.mul cap (.lit y.size)) && under st.fc cap 9223372036854775807 && atMost st.fc 0 cap)
                          · trivial
                          simp only [Bool.and_eq_true] at hb4
                          obtain ⟨⟨⟨⟨c1, c2⟩, c3⟩, c4⟩, c5⟩ := hb4
                          have c5' := atMost_ok hR.fc c5
                          subst c1
                          have c2' := Nat.eq_of_beq_eq_true c2
                          subst c2'
                          have c3' := Tm.beq_eq c3
                          subst c3'
                          have c4' := under_ok hR.fc c4
                          simp only [cond_true]
                          by_cases hroom2 : len + n ≤ (cap.den ρ).toNat
                          · cases obj <;> simp only [ObRel] at g4
                            rename_i arr ty0 fz
                            have hfz := g4.2.2.2 trivial
                            subst hfz
                            have hasz := g4.2.2.1 _ rfl
                            have hcs : ((cap.mul (Tm.lit ↑y.size)).den ρ).toNat = (cap.den ρ).toNat * ii.size := by
                              simp only [Tm.den, q3]
                              obtain ⟨m, hm⟩ : ∃ m : Nat, cap.den ρ = m := ⟨(cap.den ρ).toNat, by omega⟩
                              rw [hm, ← Int.natCast_mul, Int.toNat_natCast, Int.toNat_natCast]
                            rw [hcs] at hasz
                            have hmul : (len + n) * ii.size ≤ (cap.den ρ).toNat * ii.size := Nat.mul_le_mul_right _ hroom2
                            obtain ⟨arr', a1, a2, a3⟩ := run_storeCells_of (P := P) (b := ρ.b id) (o := ρ.o id + len * ii.size) (ty := ty0) (V.denL ρ news) 0 arr w g3 (fun v hv => by
                              rw [V.denL_eq, List.mem_map] at hv
                              obtain ⟨x, hx, rfl⟩ := hv
                              exact V.one_oneCell (n2 x hx) ρ) (by
                                have : (V.denL ρ news).length = n * ii.size := by rw [V.denL_eq, List.length_map, n3]
                                rw [this, hasz]
                                rw [Nat.add_mul] at hmul; omega)
                            have hnl : (V.denL ρ news).length = n * ii.size := by rw [V.denL_eq, List.length_map, n3]
                            rw [hnl] at a2
                            simp only [Nat.add_zero] at a2
                            obtain ⟨st', e1, e2, e3, e4⟩ := rename_step hR ho (arr := arr') (ty := ty0) (size := ii.size) (need := len + n) (cap := (cap.den ρ).toNat) (l := olds ++ news) hwl hroom2 (by omega) (by
                              intro i v hi
                              rw [a2]
                              by_cases hlt : i < len * ii.size
                              · rw [if_neg (by omega)]
                                rw [List.getElem?_append_left (by rw [o3]; exact hlt)] at hi
                                obtain ⟨_, t2, t3⟩ := takeN_spec holds'
                                have hi3 := t3 i v hi
                                rw [dropN_eq, List.drop_zero] at hi3
                                exact g4.1 i v hi3 (V.one_ne (t2 v (mem_of_getElem? hi)))
                              · have hil := (List.getElem?_eq_some_iff.1 hi).1
                                rw [hll, Nat.add_mul] at hil
                                rw [if_pos (by omega)]
                                rw [List.getElem?_append_right (by rw [o3]; omega), o3] at hi
                                rw [show ρ.o id + i - (ρ.o id + len * ii.size) = i - len * ii.size by omega, V.denL_eq, List.getElem?_map, hi]; rfl) (by rw [a1, hasz]) (by rw [a1, hasz, hll]; omega)
                            have e1' : growCells st (st.h.del id) y.size (Nat.add len n) (olds ++ news) = OpR.val (V.slice st.nx 0 (len + n) (Tm.var st.nx.succ)) st' := by rw [← q3]; exact e1
                            rw [e1']
                            refine ⟨_, _, e2, e3, ?_⟩
                            rw [e4]
                            have hrun := run_append_fits' (t := sT) (u := xT) (ty := rty) (e := e) (base := some ⟨ρ.b id, ρ.o id + 0, none⟩) (sLen := len) (sCap := (cap.den ρ).toNat) ht hxT q1 hSrc hroom2
                            simp only [V.den]
                            rw [hrun]
                            simp only [addr_add, Nat.add_zero]
                            rw [a3]
                            rfl
                          · have hfg := Step.forget hR id
                            exact grown { st with h := st.h.del id } hfg rfl (by omega)
                        · trivial
                      · rw [Bool.and_eq_true] at hun
                        have hun' := under_ok hR.fc hun.1
                        have hun2 : 1 ≤ len + n := Nat.le_of_ble_eq_true hun.2
                        simp only [cond_true]
                        refine grown st (Step.refl hR) rfl ?_
                        have : Int.ofNat (Nat.add len n) = ((len + n : Nat) : Int) := rfl
                        rw [this] at hun'
                        omega
                    · trivial
                  · trivial
                · have hr := atMost_ok hR.fc hroom
                  simp only [cond_true]
                  split
                  · rename_i h hw
                    obtain ⟨w', w1, w2⟩ := run_wr (P := P) hR hw n2 n1
                    refine ⟨ρ, w', w1, hs, ?_⟩
                    have := run_append_fits' (t := sT) (u := xT) (ty := rty) (e := e) (base := some ⟨ρ.b id, ρ.o id + off, none⟩) (sLen := len) (sCap := (cap.den ρ).toNat) ht hxT q1 hSrc (by
                      have hr' : ((len + n : Nat) : Int) ≤ cap.den ρ := hr
                      omega)
                    simp only [V.den]
                    rw [this]
                    simp only [addr_add]
                    have hw2 : (storeCells ⟨ρ.b id, ρ.o id + off + len * ii.size, none⟩ (V.denL ρ news)).run P w = .ok () w' := by
                      rw [q3, Nat.add_assoc]; exact w2
                    rw [hw2]; rfl
                  · trivial
              · rw [Bool.and_eq_true] at hc0
                have := Nat.eq_of_beq_eq_true hc0.1
                subst this
                have hr := atMost_ok hR.fc hc0.2
                refine VOk.same hR hs ?_
                have := run_append_fits' (t := sT) (u := xT) (ty := rty) (e := e) (base := some ⟨ρ.b id, ρ.o id + off, none⟩) (sLen := len) (sCap := (cap.den ρ).toNat) ht hxT q1 hSrc (by omega)
                have hnil : news = [] := List.length_eq_zero_iff.1 (by rw [n3]; simp)
                subst hnil
                simp only [V.den]
                rw [this]
                simp [V.denL, storeCells]
            · trivial
          · trivial
        · trivial
      · trivial
    · trivial
  · trivial
end
end Go.Sx
