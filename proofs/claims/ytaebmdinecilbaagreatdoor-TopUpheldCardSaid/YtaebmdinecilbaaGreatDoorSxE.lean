/- A part of a symbolic evaluator over the model and of the proof that it is right: 'SxE'. It holds for every program; no condition. -/
import Derived.Test.YtaebmdinecilbaaGreatDoorSxD
import Derived.Test.YtaebmdinecilbaaGreatDoorSxY
import Derived.Laws.World
namespace Go.Sx

/-! ## Deferred calls, objects -/
inductive AD where
  | fn (f : AFn) (caps args : List V)
  | collected (id : Nat)
def AD.den (ρ : Env) : AD → Deferred
  | .fn f caps args => { target := .fn (f.den ρ) (V.denL ρ caps).toArray, args := (V.denL ρ args).toArray }
  | .collected id => { target := .collected (ρ.b id), args := #[] }
def AD.wf (n : Nat) : AD → Prop
  | .fn f caps args => f.wf n ∧ V.wfL n caps ∧ V.wfL n args
  | .collected id => id < n
theorem AD.den_agree {n : Nat} {ρ ρ' : Env} (h : Env.agree n ρ ρ') : ∀ {d : AD}, d.wf n → d.den ρ = d.den ρ'
  | .fn _ _ _, hk => by simp only [AD.den, AFn.den_agree h hk.1, V.denL_agree h hk.2.1, V.denL_agree h hk.2.2]
  | .collected id, hk => by simp only [AD.den, (h id hk).2.1]
theorem AD.wf_mono {m n : Nat} (h : m ≤ n) : ∀ {d : AD}, d.wf m → d.wf n
  | .fn _ _ _, hk => ⟨AFn.wf_mono h hk.1, V.wfL_mono h hk.2.1, V.wfL_mono h hk.2.2⟩
  | .collected _, hk => Nat.lt_of_lt_of_le hk h

/-- what is known of the temporaries of a frame -/
def TRel (ρ : Env) (n : Nat) (t : Tr V) (tmps : Array Value) : Prop := ∀ k v, t.get k = some v → tmps[k]? = some (v.den ρ) ∧ v.wf n
theorem TRel.agree {ρ ρ' : Env} {n n' : Nat} {t : Tr V} {tmps : Array Value} (h : TRel ρ n t tmps) (ha : Env.agree n ρ ρ') (hn : n ≤ n') : TRel ρ' n' t tmps :=
  fun k v hk => ⟨by rw [← V.den_agree ha (h k v hk).2]; exact (h k v hk).1, V.wf_mono hn (h k v hk).2⟩
theorem TRel.set {ρ : Env} {n : Nat} {t : Tr V} {tmps : Array Value} (h : TRel ρ n t tmps) {d : Nat} {v : V} (hv : v.wf n) (hd : d < tmps.size) :
    TRel ρ n (t.set d v) (tmps.setIfInBounds d (v.den ρ)) := by
  intro k u hk
  rcases Tr.get_set hk with ⟨rfl, rfl⟩ | ⟨hne, hk⟩
  · exact ⟨by simp [hd], hv⟩
  · refine ⟨?_, (h k u hk).2⟩
    rw [Array.getElem?_setIfInBounds_ne (Ne.symm hne)]
    exact (h k u hk).1

structure ALoop where
  state : LoopState
  pending : Option Code
  fn : Nat
  t : Tr V
  sz : Nat
  params : Array Tmp
  assign : Code
  body : Code
  defers : Nat
  pl : Tr (List PA)
/-- its plans are good -/
def ALoop.good (l : ALoop) : Prop := codeOk planOk l.pl l.assign = true ∧ codeOk planOk l.pl l.body = true ∧ ∀ c, l.pending = some c → ∀ pl, codeOk planOk pl c = true

inductive Ob where
  | cells (rw : Bool) (cs : List V) (sz : Option Tm)
  | map (es : List (V × V × Nat)) (clock : Nat)
  | strIter (s : List UInt8) (pos : Nat)
  | mapIter (m : Option Nat) (since : Nat) (seen : List Nat) (last : Nat)
  | loop (l : ALoop)
  | deferred (o : Option (List AD))

def Ob.rw : Ob → Bool
  | .cells rw _ _ => rw
  | _ => true

def Ob.wf (n : Nat) : Ob → Prop
  | .cells _ cs sz => V.wfL n cs ∧ ∀ t ∈ sz, t.wf n
  | .map es _ => ∀ e ∈ es, e.1.wf n ∧ e.2.1.wf n
  | .strIter _ _ => True
  | .mapIter m _ _ _ => ∀ id ∈ m, id < n
  | .loop l => (∀ k v, l.t.get k = some v → v.wf n) ∧ l.defers < n ∧ l.good
  | .deferred o => ∀ l ∈ o, ∀ d ∈ l, d.wf n

def CellsRel (ρ : Env) (base : Nat) (cs : List V) (arr : Array Value) : Prop := ∀ i v, cs[i]? = some v → v ≠ .unk → arr[base + i]? = some (v.den ρ)

def ObRel (ρ : Env) (id : Nat) : Ob → Obj → Prop
  | .cells rw cs sz, .cells arr _ fz => CellsRel ρ (ρ.o id) cs arr ∧ ρ.o id + cs.length ≤ arr.size ∧ (∀ t ∈ sz, arr.size = ρ.o id + (t.den ρ).toNat) ∧ (rw = true → fz = (0, 0))
  | .map es clock, .map es' clock' => es' = (es.map fun e => { key := e.1.den ρ, val := e.2.1.den ρ, born := e.2.2 }).toArray ∧ clock' = clock
  | .strIter s pos, .stringIter s' pos' => s' = ⟨s.toArray⟩ ∧ pos' = pos ∧ ρ.o id = 0
  | .mapIter m since seen last, .mapIter m' since' seen' last' => m' = m.map ρ.b ∧ since' = since ∧ seen' = seen.toArray ∧ last' = last ∧ ρ.o id = 0
  | .loop l, .loop l' => l'.state = l.state ∧ l'.pending = l.pending ∧ l'.fn = l.fn ∧ (∀ k v, l.t.get k = some v → l'.tmps[k]? = some (v.den ρ)) ∧ l'.tmps.size = l.sz ∧
      l'.params = l.params ∧ l'.assign = l.assign ∧ l'.body = l.body ∧ l'.defers = ρ.b l.defers
  | .deferred o, .deferred o' => o' = o.map (·.map (AD.den ρ))
  | _, _ => False

theorem Ob.wf_mono {m n : Nat} (h : m ≤ n) {o : Ob} (hk : o.wf m) : o.wf n := by
  cases o with
  | cells rw cs sz => exact ⟨V.wfL_mono h hk.1, fun t ht => Tm.wf_mono h (hk.2 t ht)⟩
  | map es clock => exact fun e he => ⟨V.wf_mono h (hk e he).1, V.wf_mono h (hk e he).2⟩
  | strIter s pos => trivial
  | mapIter m _ _ _ => exact fun id hid => Nat.lt_of_lt_of_le (hk id hid) h
  | loop l => exact ⟨fun k v hv => V.wf_mono h (hk.1 k v hv), Nat.lt_of_lt_of_le hk.2.1 h, hk.2.2⟩
  | deferred o => exact fun l hl d hd => AD.wf_mono h (hk l hl d hd)

theorem mem_of_getElem? {α : Type} {l : List α} {i : Nat} {a : α} (h : l[i]? = some a) : a ∈ l := List.mem_of_getElem? h

theorem ObRel.agree {ρ ρ' : Env} {n id : Nat} (ha : Env.agree n ρ ρ') (hid : id < n) {o : Ob} (hw : o.wf n) {obj : Obj} (h : ObRel ρ id o obj) : ObRel ρ' id o obj := by
  have ho : ρ.o id = ρ'.o id := (ha id hid).2.2.2
  cases o with
  | cells rw cs sz =>
    cases obj <;> simp only [ObRel] at h ⊢
    rw [← ho]
    refine ⟨fun i v hi hv => ?_, h.2.1, fun t ht => ?_, h.2.2.2⟩
    · have hwf := (V.wfL_iff n cs).1 hw.1 v (mem_of_getElem? hi)
      rw [← V.den_agree ha hwf]; exact h.1 i v hi hv
    · rw [← Tm.den_agree ha (hw.2 t ht)]; exact h.2.2.1 t ht
  | map es clock =>
    cases obj <;> simp only [ObRel] at h ⊢
    refine ⟨?_, h.2⟩
    rw [h.1]; congr 1
    apply List.map_congr_left
    intro e he
    rw [V.den_agree ha (hw e he).1, V.den_agree ha (hw e he).2]
  | strIter s pos =>
    cases obj <;> simp only [ObRel] at h ⊢
    rw [← ho]; exact h
  | mapIter m _ _ _ =>
    cases obj <;> simp only [ObRel] at h ⊢
    rw [← ho]
    refine ⟨?_, h.2⟩
    rw [h.1]
    cases m with
    | none => rfl
    | some id => simp [(ha id (hw id rfl)).2.1]
  | loop l =>
    cases obj <;> simp only [ObRel] at h ⊢
    obtain ⟨h1, h2, h3, h4, h5, h6, h7, h8, h9⟩ := h
    refine ⟨h1, h2, h3, fun k v hv => ?_, h5, h6, h7, h8, ?_⟩
    · rw [← V.den_agree ha (hw.1 k v hv)]; exact h4 k v hv
    · rw [h9]; exact (ha _ hw.2.1).2.1
  | deferred o =>
    cases obj <;> simp only [ObRel] at h ⊢
    rw [h]
    cases o with
    | none => rfl
    | some l =>
      simp only [Option.map_some]
      congr 1
      apply List.map_congr_left
      intro d hd
      exact AD.den_agree ha (hw l rfl d hd)

/-! ## States -/
structure St where
  h : Tr Ob
  nx : Nat
  fc : Facts

structure Real (ρ : Env) (st : St) (w : World) : Prop where
  obj : ∀ id o, st.h.get id = some o → id < st.nx ∧ o.wf st.nx ∧ ∃ obj, w.heap[ρ.b id]? = some obj ∧ ObRel ρ id o obj
  inj : ∀ id id' o o', st.h.get id = some o → st.h.get id' = some o' → id ≠ id' → (o.rw = true ∨ o'.rw = true) → ρ.b id ≠ ρ.b id'
  fc : FactsOk ρ st.fc
  fw : FactsWf st.nx st.fc

/-- the blocks that may be written -/
def Img (ρ : Env) (st : St) (k : Nat) : Prop := ∃ id o, st.h.get id = some o ∧ o.rw = true ∧ ρ.b id = k

/-- all blocks that are known -/
def ImgA (ρ : Env) (st : St) (k : Nat) : Prop := ∃ id o, st.h.get id = some o ∧ ρ.b id = k

structure Step (ρ : Env) (st : St) (w : World) (ρ' : Env) (st' : St) (w' : World) : Prop where
  agree : Env.agree st.nx ρ ρ'
  nx : st.nx ≤ st'.nx
  real : Real ρ' st' w'
  os : w'.os = w.os
  tape : w'.tape = w.tape
  output : w'.output = w.output
  size : w.heap.size ≤ w'.heap.size
  keep : ∀ k, k < w.heap.size → ¬ Img ρ st k → w'.heap[k]? = w.heap[k]?
  img : ∀ k, Img ρ' st' k → Img ρ st k ∨ w.heap.size ≤ k
  imgA : ∀ k, ImgA ρ' st' k → ImgA ρ st k ∨ w.heap.size ≤ k

theorem Step.refl {ρ : Env} {st : St} {w : World} (h : Real ρ st w) : Step ρ st w ρ st w :=
  ⟨.refl _ _, Nat.le_refl _, h, rfl, rfl, rfl, Nat.le_refl _, fun _ _ _ => rfl, fun _ h => .inl h, fun _ h => .inl h⟩
theorem Step.trans {ρ ρ1 ρ2 : Env} {st st1 st2 : St} {w w1 w2 : World} (h : Step ρ st w ρ1 st1 w1) (k : Step ρ1 st1 w1 ρ2 st2 w2) : Step ρ st w ρ2 st2 w2 where
  agree := h.agree.trans (k.agree.mono h.nx)
  nx := Nat.le_trans h.nx k.nx
  real := k.real
  os := k.os.trans h.os
  tape := k.tape.trans h.tape
  output := k.output.trans h.output
  size := Nat.le_trans h.size k.size
  keep := fun j hj hi => by
    rw [k.keep j (Nat.lt_of_lt_of_le hj h.size) (fun hi' => ?_), h.keep j hj hi]
    rcases h.img j hi' with h' | h'
    · exact hi h'
    · omega
  img := fun j hj => by
    rcases k.img j hj with h' | h'
    · exact h.img j h'
    · exact .inr (Nat.le_trans h.size h')
  imgA := fun j hj => by
    rcases k.imgA j hj with h' | h'
    · exact h.imgA j h'
    · exact .inr (Nat.le_trans h.size h')

theorem lt_of_some {α : Type} {a : Array α} {k : Nat} {x : α} (h : a[k]? = some x) : k < a.size := by
  rcases Nat.lt_or_ge k a.size with h' | h'
  · exact h'
  · simp [Array.getElem?_eq_none h'] at h
theorem Real.lt {ρ : Env} {st : St} {w : World} (h : Real ρ st w) {id : Nat} {o : Ob} (ho : st.h.get id = some o) : ρ.b id < w.heap.size := by
  obtain ⟨_, _, obj, hb, _⟩ := h.obj id o ho
  exact lt_of_some hb

/-- a world that differs in nothing that is looked at -/
theorem Step.draw {ρ : Env} {st : St} {w : World} (h : Real ρ st w) : Step ρ st w ρ st w.drew :=
  ⟨.refl _ _, Nat.le_refl _, ⟨h.obj, h.inj, h.fc, h.fw⟩, rfl, rfl, rfl, Nat.le_refl _, fun _ _ _ => rfl, fun _ h => .inl h, fun _ h => .inl h⟩

/-- a new fact -/
theorem Step.learn {ρ : Env} {st : St} {w : World} (h : Real ρ st w) {c : Tm} {b : Bool} (hc : (c.den ρ != 0) = b) (hw : c.wf st.nx) :
    Step ρ st w ρ { st with fc := learn st.fc c b } w :=
  ⟨.refl _ _, Nat.le_refl _, ⟨h.obj, h.inj, learn_ok h.fc hc, learn_wf h.fw hw⟩, rfl, rfl, rfl, Nat.le_refl _, fun _ _ _ => rfl, fun _ h => .inl h, fun _ h => .inl h⟩

def Env.setI (ρ : Env) (n : Nat) (z : Int) : Env := { ρ with i := fun k => if k = n then z else ρ.i k }
def Env.setB (ρ : Env) (n b o : Nat) : Env := { ρ with b := fun k => if k = n then b else ρ.b k, o := fun k => if k = n then o else ρ.o k }
def Env.setV (ρ : Env) (n : Nat) (v : Value) : Env := { ρ with v := fun k => if k = n then v else ρ.v k }
theorem Env.agree_setI {ρ : Env} {n : Nat} {z : Int} : Env.agree n ρ (ρ.setI n z) := fun k hk => by simp [Env.setI, Nat.ne_of_lt hk]
theorem Env.agree_setB {ρ : Env} {n b o : Nat} : Env.agree n ρ (ρ.setB n b o) := fun k hk => by simp [Env.setB, Nat.ne_of_lt hk]
theorem Env.agree_setV {ρ : Env} {n : Nat} {v : Value} : Env.agree n ρ (ρ.setV n v) := fun k hk => by simp [Env.setV, Nat.ne_of_lt hk]

theorem FactsOk.agree {ρ ρ' : Env} {n : Nat} {fc : Facts} (h : FactsOk ρ fc) (hw : FactsWf n fc) (ha : Env.agree n ρ ρ') : FactsOk ρ' fc :=
  fun f hf => by rw [← Tm.den_agree ha (hw f hf)]; exact h f hf

/-- names that are new may be given what they stand for -/
theorem Real.extend {ρ ρ' : Env} {st : St} {w : World} (h : Real ρ st w) (ha : Env.agree st.nx ρ ρ') {n : Nat} (hn : st.nx ≤ n) : Real ρ' { st with nx := n } w where
  obj := fun id o ho => by
    obtain ⟨h1, h2, obj, h3, h4⟩ := h.obj id o ho
    refine ⟨Nat.lt_of_lt_of_le h1 hn, Ob.wf_mono hn h2, obj, ?_, h4.agree ha h1 h2⟩
    rw [← (ha id h1).2.1]; exact h3
  inj := fun id id' o o' ho ho' hne hrw => by
    rw [← (ha id (h.obj id o ho).1).2.1, ← (ha id' (h.obj id' o' ho').1).2.1]; exact h.inj id id' o o' ho ho' hne hrw
  fc := h.fc.agree h.fw ha
  fw := fun f hf => Tm.wf_mono hn (h.fw f hf)
theorem Step.extend {ρ ρ' : Env} {st : St} {w : World} (h : Real ρ st w) (ha : Env.agree st.nx ρ ρ') {n : Nat} (hn : st.nx ≤ n) : Step ρ st w ρ' { st with nx := n } w where
  agree := ha
  nx := hn
  real := h.extend ha hn
  os := rfl
  tape := rfl
  output := rfl
  size := Nat.le_refl _
  keep := fun _ _ _ => rfl
  img := fun k ⟨id, o, ho, hr, hb⟩ => .inl ⟨id, o, ho, hr, by rw [← hb, (ha id (h.obj id o ho).1).2.1]⟩
  imgA := fun k ⟨id, o, ho, hb⟩ => .inl ⟨id, o, ho, by rw [← hb, (ha id (h.obj id o ho).1).2.1]⟩

/-- an object of a block that is known already, new to us: a block that nothing else names -/
theorem Real.bind {ρ : Env} {st : St} {w : World} (h : Real ρ st w) {b base : Nat} {o : Ob} {obj : Obj} (hb : w.heap[b]? = some obj)
    (hf : ∀ id o', st.h.get id = some o' → ρ.b id ≠ b) (hr : ObRel (ρ.setB st.nx b base) st.nx o obj) (hw : o.wf (st.nx + 1)) :
    Real (ρ.setB st.nx b base) { st with h := st.h.set st.nx o, nx := st.nx + 1 } w := by
  have ha : Env.agree st.nx ρ (ρ.setB st.nx b base) := Env.agree_setB
  have hx := h.extend ha (Nat.le_succ st.nx)
  refine ⟨fun id o' ho' => ?_, fun id id' o1 o2 h1 h2 hne hrw => ?_, hx.fc, hx.fw⟩
  · rcases Tr.get_set ho' with ⟨rfl, rfl⟩ | ⟨_, ho'⟩
    · exact ⟨Nat.lt_succ_self _, hw, obj, by simpa [Env.setB] using hb, hr⟩
    · exact hx.obj id o' ho'
  · rcases Tr.get_set h1 with ⟨rfl, rfl⟩ | ⟨g1, h1⟩ <;> rcases Tr.get_set h2 with ⟨rfl, rfl⟩ | ⟨g2, h2⟩
    · exact absurd rfl hne
    · have := hf id' o2 h2
      simp only [Env.setB, if_true, if_neg g2]; exact Ne.symm this
    · have := hf id o1 h1
      simp only [Env.setB, if_true, if_neg g1]; exact this
    · exact hx.inj id id' o1 o2 h1 h2 hne hrw

theorem Real.push {ρ : Env} {st : St} {w : World} (h : Real ρ st w) (obj : Obj) : Real ρ st (w.alloc obj) where
  obj := fun id o ho => by
    obtain ⟨h1, h2, ob, h3, h4⟩ := h.obj id o ho
    refine ⟨h1, h2, ob, ?_, h4⟩
    show (w.heap.push obj)[_]? = _
    rw [Array.getElem?_push, if_neg (Nat.ne_of_lt (lt_of_some h3))]; exact h3
  inj := h.inj
  fc := h.fc
  fw := h.fw
theorem Step.push {ρ : Env} {st : St} {w : World} (h : Real ρ st w) (obj : Obj) : Step ρ st w ρ st (w.alloc obj) :=
  ⟨.refl _ _, Nat.le_refl _, h.push obj, rfl, rfl, rfl, by simp, fun k hk _ => by
    show (w.heap.push obj)[_]? = _
    rw [Array.getElem?_push, if_neg (Nat.ne_of_lt hk)], fun _ h => .inl h, fun _ h => .inl h⟩

/-- a new block -/
theorem Step.alloc {ρ : Env} {st : St} {w : World} (h : Real ρ st w) {o : Ob} {obj : Obj}
    (hr : ObRel (ρ.setB st.nx w.heap.size 0) st.nx o obj) (hw : o.wf (st.nx + 1)) :
    Step ρ st w (ρ.setB st.nx w.heap.size 0) { st with h := st.h.set st.nx o, nx := st.nx + 1 } (w.alloc obj) := by
  have hp := Step.push h obj
  have hne : ∀ id o', st.h.get id = some o' → ρ.b id ≠ w.heap.size := fun id o' ho' => Nat.ne_of_lt (h.lt ho')
  refine ⟨Env.agree_setB, Nat.le_succ _, Real.bind hp.real (by show (w.heap.push obj)[w.heap.size]? = some obj; simp) hne hr hw, rfl, rfl, rfl, hp.size, hp.keep, ?_, ?_⟩
  · rintro k ⟨id, o', ho', hrw, hb⟩
    rcases Tr.get_set ho' with ⟨rfl, rfl⟩ | ⟨g, ho'⟩
    · right; simp [Env.setB] at hb; omega
    · left; refine ⟨id, o', ho', hrw, ?_⟩; rw [← hb]; simp [Env.setB, g]
  · rintro k ⟨id, o', ho', hb⟩
    rcases Tr.get_set ho' with ⟨rfl, rfl⟩ | ⟨g, ho'⟩
    · right; simp [Env.setB] at hb; omega
    · left; refine ⟨id, o', ho', ?_⟩; rw [← hb]; simp [Env.setB, g]

/-- an object is written -/
theorem Step.write {ρ : Env} {st : St} {w : World} (h : Real ρ st w) {id : Nat} {o o' : Ob} {obj : Obj} (ho : st.h.get id = some o) (hrw : o.rw = true)
    (hr : ObRel ρ id o' obj) (hw : o'.wf st.nx) :
    Step ρ st w ρ { st with h := st.h.set id o' } { w with heap := w.heap.setIfInBounds (ρ.b id) obj } := by
  obtain ⟨hid, _, ob0, hb0, _⟩ := h.obj id o ho
  have hlt := lt_of_some hb0
  have hother : ∀ j, j ≠ ρ.b id → (w.heap.setIfInBounds (ρ.b id) obj)[j]? = w.heap[j]? := fun j hj => Array.getElem?_setIfInBounds_ne (Ne.symm hj)
  refine ⟨.refl _ _, Nat.le_refl _, ⟨fun i o1 h1 => ?_, fun i i' o1 o2 h1 h2 hne hr' => ?_, h.fc, h.fw⟩, rfl, rfl, rfl, by simp, fun k hk hi => ?_, ?_, ?_⟩
  · rcases Tr.get_set h1 with ⟨rfl, rfl⟩ | ⟨g1, h1⟩
    · exact ⟨hid, hw, obj, by simp [hlt], hr⟩
    · obtain ⟨a1, a2, ob, a3, a4⟩ := h.obj i o1 h1
      refine ⟨a1, a2, ob, ?_, a4⟩
      show (w.heap.setIfInBounds (ρ.b id) obj)[_]? = _
      rw [hother _ (h.inj i id o1 o h1 ho g1 (.inr hrw))]; exact a3
  · rcases Tr.get_set h1 with ⟨rfl, rfl⟩ | ⟨g1, k1⟩ <;> rcases Tr.get_set h2 with ⟨rfl, rfl⟩ | ⟨g2, k2⟩
    · exact absurd rfl hne
    · exact h.inj _ i' o o2 ho k2 hne (.inl hrw)
    · exact h.inj i _ o1 o k1 ho hne (.inr hrw)
    · exact h.inj i i' o1 o2 k1 k2 hne hr'
  · show (w.heap.setIfInBounds (ρ.b id) obj)[_]? = _
    exact hother _ (fun e => hi ⟨id, o, ho, hrw, e.symm⟩)
  · rintro k ⟨i, o1, h1, hr1, hb⟩
    rcases Tr.get_set h1 with ⟨rfl, rfl⟩ | ⟨g1, h1⟩
    · exact .inl ⟨_, o, ho, hrw, hb⟩
    · exact .inl ⟨i, o1, h1, hr1, hb⟩
  · rintro k ⟨i, o1, h1, hb⟩
    rcases Tr.get_set h1 with ⟨rfl, rfl⟩ | ⟨g1, h1⟩
    · exact .inl ⟨_, o, ho, hb⟩
    · exact .inl ⟨i, o1, h1, hb⟩

/-- an object is forgotten -/
theorem Step.forget {ρ : Env} {st : St} {w : World} (h : Real ρ st w) (id : Nat) : Step ρ st w ρ { st with h := st.h.del id } w :=
  ⟨.refl _ _, Nat.le_refl _, ⟨fun i o ho => h.obj i o (Tr.get_del ho).2, fun i i' o o' ho ho' => h.inj i i' o o' (Tr.get_del ho).2 (Tr.get_del ho').2, h.fc, h.fw⟩, rfl, rfl, rfl,
    Nat.le_refl _, fun _ _ _ => rfl, fun _ ⟨i, o, ho, hr, hb⟩ => .inl ⟨i, o, (Tr.get_del ho).2, hr, hb⟩, fun _ ⟨i, o, ho, hb⟩ => .inl ⟨i, o, (Tr.get_del ho).2, hb⟩⟩

/-! ## Results that part -/
inductive Res (α : Type) where
  | ok (a : α)
  | fork (c : Tm) (l r : Res α)
  | bad (n : Nat)

def Res.bind {α β : Type} : Res α → (α → Res β) → Res β
  | .ok a, f => f a
  | .fork c l r, f => .fork c (l.bind f) (r.bind f)
  | .bad n, _ => .bad n

/-- at the way that is taken, under an extension of what names stand for, Q -/
def Holds {α : Type} (n : Nat) : Env → Res α → (Env → α → Prop) → Prop
  | ρ, .ok a, Q => ∃ ρ', Env.agree n ρ ρ' ∧ Q ρ' a
  | ρ, .fork c l r, Q => ∃ ρ', Env.agree n ρ ρ' ∧ (c.den ρ' ≠ 0 → Holds n ρ' l Q) ∧ (c.den ρ' = 0 → Holds n ρ' r Q)
  | _, .bad _, _ => True

theorem Holds.pre {α : Type} {n : Nat} : ∀ {t : Res α} {ρ ρ' : Env} {Q : Env → α → Prop}, Env.agree n ρ ρ' → Holds n ρ' t Q → Holds n ρ t Q
  | .ok _, _, _, _, h, ⟨ρ2, h2, q⟩ => ⟨ρ2, h.trans h2, q⟩
  | .fork _ _ _, _, _, _, h, ⟨ρ2, h2, q⟩ => ⟨ρ2, h.trans h2, q⟩
  | .bad _, _, _, _, _, _ => trivial
theorem Holds.mono {α : Type} {n m : Nat} (hm : n ≤ m) : ∀ {t : Res α} {ρ : Env} {Q : Env → α → Prop}, Holds m ρ t Q → Holds n ρ t Q
  | .ok _, _, _, ⟨ρ2, h2, q⟩ => ⟨ρ2, h2.mono hm, q⟩
  | .fork _ _ _, _, _, ⟨ρ2, h2, q1, q2⟩ => ⟨ρ2, h2.mono hm, fun c => (q1 c).mono hm, fun c => (q2 c).mono hm⟩
  | .bad _, _, _, _ => trivial
theorem Holds.bind {α β : Type} {n : Nat} {f : α → Res β} {Q' : Env → β → Prop} : ∀ {t : Res α} {ρ : Env} {Q : Env → α → Prop}, Holds n ρ t Q →
    (∀ ρ' a, Env.agree n ρ ρ' → Q ρ' a → Holds n ρ' (f a) Q') → Holds n ρ (t.bind f) Q'
  | .ok a, _, _, ⟨ρ2, h2, q⟩, k => (k ρ2 a h2 q).pre h2
  | .fork _ _ _, _, _, ⟨ρ2, h2, q1, q2⟩, k => ⟨ρ2, h2, fun c => (q1 c).bind fun ρ' a h q => k ρ' a (h2.trans h) q, fun c => (q2 c).bind fun ρ' a h q => k ρ' a (h2.trans h) q⟩
  | .bad _, _, _, _, _ => trivial
theorem Holds.imp {α : Type} {n : Nat} : ∀ {t : Res α} {ρ : Env} {Q Q' : Env → α → Prop}, Holds n ρ t Q → (∀ ρ' a, Env.agree n ρ ρ' → Q ρ' a → Q' ρ' a) → Holds n ρ t Q'
  | .ok a, _, _, _, ⟨ρ2, h2, q⟩, k => ⟨ρ2, h2, k ρ2 a h2 q⟩
  | .fork _ _ _, _, _, _, ⟨ρ2, h2, q1, q2⟩, k => ⟨ρ2, h2, fun c => (q1 c).imp fun ρ' a h q => k ρ' a (h2.trans h) q, fun c => (q2 c).imp fun ρ' a h q => k ρ' a (h2.trans h) q⟩
  | .bad _, _, _, _, _, _ => trivial
def Res.all {α : Type} (p : α → Bool) : Res α → Bool
  | .ok a => p a
  | .fork _ l r => l.all p && r.all p
  | .bad _ => false
theorem Holds.out {α : Type} {n : Nat} {p : α → Bool} : ∀ {t : Res α} {ρ : Env} {Q : Env → α → Prop}, Holds n ρ t Q → t.all p = true → ∃ ρ' a, Env.agree n ρ ρ' ∧ Q ρ' a ∧ p a = true
  | .ok a, ρ, Q, ⟨ρ2, h2, q⟩, h => ⟨ρ2, a, h2, q, h⟩
  | .fork c l r, ρ, Q, ⟨ρ2, h2, q1, q2⟩, h => by
    simp only [Res.all, Bool.and_eq_true] at h
    by_cases hc : c.den ρ2 = 0
    · obtain ⟨ρ3, a, h3, q⟩ := (q2 hc).out h.2
      exact ⟨ρ3, a, h2.trans h3, q⟩
    · obtain ⟨ρ3, a, h3, q⟩ := (q1 hc).out h.1
      exact ⟨ρ3, a, h2.trans h3, q⟩
end Go.Sx
