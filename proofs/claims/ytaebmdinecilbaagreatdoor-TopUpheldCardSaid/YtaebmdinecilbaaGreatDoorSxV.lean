/- A part of a symbolic evaluator over the model and of the proof that it is right: 'SxV'. It holds for every program; no condition. -/
import Derived.Test.YtaebmdinecilbaaGreatDoorSxU
namespace Go.Sx

/-! ## The evaluator -/
inductive AI where
  | code (c : Code)
  | inBlock (n : Nat)
  | inLoop (c : Code)
  | inScope (c : Code)
  | endRF (id : Nat)
  | beginRound
def AI.den (ρ : Env) : AI → Item
  | .code c => .code c
  | .inBlock n => .inBlock n
  | .inLoop c => .inLoop c
  | .inScope c => .inScope c
  | .endRF id => .endRangeFunc (ρ.b id)
  | .beginRound => .beginRound
def AI.wf (n : Nat) : AI → Prop
  | .endRF id => id < n
  | _ => True
def AI.wfL (n : Nat) (l : List AI) : Prop := ∀ x ∈ l, AI.wf n x
theorem AI.wf_mono {m n : Nat} (h : m ≤ n) {x : AI} (hx : x.wf m) : x.wf n := by cases x <;> first | trivial | exact Nat.lt_of_lt_of_le hx h
theorem AI.den_agree {n : Nat} {ρ ρ' : Env} (h : Env.agree n ρ ρ') {x : AI} (hx : x.wf n) : x.den ρ = x.den ρ' := by
  cases x <;> first | rfl | (simp only [AI.den, (h _ hx).2.1])
theorem AI.denL_agree {n : Nat} {ρ ρ' : Env} (h : Env.agree n ρ ρ') {l : List AI} (hx : AI.wfL n l) : l.map (AI.den ρ) = l.map (AI.den ρ') :=
  List.map_congr_left fun x hm => AI.den_agree h (hx x hm)
theorem AI.wfL_mono {m n : Nat} (h : m ≤ n) {l : List AI} (hx : AI.wfL m l) : AI.wfL n l := fun x hm => AI.wf_mono h (hx x hm)
theorem AI.wfL_cons {n : Nat} {x : AI} {l : List AI} (hx : x.wf n) (hl : AI.wfL n l) : AI.wfL n (x :: l) := by
  intro y hy
  rcases List.mem_cons.1 hy with rfl | hy
  · exact hx
  · exact hl y hy
theorem AI.wfL_tail {n : Nat} {x : AI} {l : List AI} (hl : AI.wfL n (x :: l)) : AI.wfL n l := fun y hy => hl y (List.mem_cons_of_mem _ hy)

structure FC where
  fn : Nat
  kind : CallKind
  ro : Option Nat
  pl : Tr (List PA)
  lim : Option Nat

/-- a frame at work: its temporaries (and how many), its deferred calls -/
structure Fr where
  t : Tr V
  sz : Nat
  ds : List AD

inductive FOut where
  | leave (jump : Option Code)
  | panic (v : V)
  | hd (todo : List AI)
inductive COut where
  | ret (v : V)
  | panic (v : V)

def aExit (id : Nat) : List AI → Option (List AI)
  | [] => none
  | .inBlock n :: k => bif Nat.beq n id then some k else aExit id k
  | _ :: k => aExit id k
def aGoto (l : Nat) : List AI → Option (List AI)
  | [] => none
  | .inScope body :: k => match findLabel body l with
    | some rest => some (.code rest :: .inScope body :: k)
    | none => aGoto l k
  | _ :: k => aGoto l k

theorem aExit_spec {ρ : Env} {id n : Nat} : ∀ {k k' : List AI}, aExit id k = some k' → AI.wfL n k → exitTo id (k.map (AI.den ρ)) = some (k'.map (AI.den ρ)) ∧ AI.wfL n k'
  | [], k', h, _ => by simp [aExit] at h
  | x :: k, k', h, hw => by
    cases x with
    | inBlock m =>
      simp only [aExit] at h
      cases hb : Nat.beq m id <;> simp [hb] at h
      · have hne : (m == id) = false := by
          simp only [beq_eq_false_iff_ne]; intro e; rw [e] at hb; simp at hb
        obtain ⟨h1, h2⟩ := aExit_spec h (AI.wfL_tail hw)
        exact ⟨by simp only [List.map_cons, AI.den, exitTo, hne]; exact h1, h2⟩
      · subst h
        have := Nat.eq_of_beq_eq_true hb
        subst this
        exact ⟨by simp [AI.den, exitTo], AI.wfL_tail hw⟩
    | code c => simp only [aExit] at h; obtain ⟨h1, h2⟩ := aExit_spec h (AI.wfL_tail hw); exact ⟨by simp only [List.map_cons, AI.den, exitTo]; exact h1, h2⟩
    | inLoop c => simp only [aExit] at h; obtain ⟨h1, h2⟩ := aExit_spec h (AI.wfL_tail hw); exact ⟨by simp only [List.map_cons, AI.den, exitTo]; exact h1, h2⟩
    | inScope c => simp only [aExit] at h; obtain ⟨h1, h2⟩ := aExit_spec h (AI.wfL_tail hw); exact ⟨by simp only [List.map_cons, AI.den, exitTo]; exact h1, h2⟩
    | endRF c => simp only [aExit] at h; obtain ⟨h1, h2⟩ := aExit_spec h (AI.wfL_tail hw); exact ⟨by simp only [List.map_cons, AI.den, exitTo]; exact h1, h2⟩
    | beginRound => simp only [aExit] at h; obtain ⟨h1, h2⟩ := aExit_spec h (AI.wfL_tail hw); exact ⟨by simp only [List.map_cons, AI.den, exitTo]; exact h1, h2⟩
theorem aGoto_spec {ρ : Env} {l n : Nat} : ∀ {k k' : List AI}, aGoto l k = some k' → AI.wfL n k → gotoIn l (k.map (AI.den ρ)) = some (k'.map (AI.den ρ)) ∧ AI.wfL n k'
  | [], k', h, _ => by simp [aGoto] at h
  | x :: k, k', h, hw => by
    cases x with
    | inScope body =>
      simp only [aGoto] at h
      split at h
      · rename_i rest hr
        simp at h; subst h
        exact ⟨by simp [AI.den, gotoIn, hr], AI.wfL_cons trivial (AI.wfL_cons trivial (AI.wfL_tail hw))⟩
      · rename_i hr
        obtain ⟨h1, h2⟩ := aGoto_spec h (AI.wfL_tail hw)
        exact ⟨by simp only [List.map_cons, AI.den, gotoIn, hr]; exact h1, h2⟩
    | code c => simp only [aGoto] at h; obtain ⟨h1, h2⟩ := aGoto_spec h (AI.wfL_tail hw); exact ⟨by simp only [List.map_cons, AI.den, gotoIn]; exact h1, h2⟩
    | inLoop c => simp only [aGoto] at h; obtain ⟨h1, h2⟩ := aGoto_spec h (AI.wfL_tail hw); exact ⟨by simp only [List.map_cons, AI.den, gotoIn]; exact h1, h2⟩
    | inBlock c => simp only [aGoto] at h; obtain ⟨h1, h2⟩ := aGoto_spec h (AI.wfL_tail hw); exact ⟨by simp only [List.map_cons, AI.den, gotoIn]; exact h1, h2⟩
    | endRF c => simp only [aGoto] at h; obtain ⟨h1, h2⟩ := aGoto_spec h (AI.wfL_tail hw); exact ⟨by simp only [List.map_cons, AI.den, gotoIn]; exact h1, h2⟩
    | beginRound => simp only [aGoto] at h; obtain ⟨h1, h2⟩ := aGoto_spec h (AI.wfL_tail hw); exact ⟨by simp only [List.map_cons, AI.den, gotoIn]; exact h1, h2⟩
theorem aExit_none {ρ : Env} {id : Nat} : ∀ {k : List AI}, aExit id k = none → exitTo id (k.map (AI.den ρ)) = none
  | [], _ => rfl
  | .inBlock m :: k, h => by
    simp only [aExit] at h
    cases hb : Nat.beq m id <;> simp [hb] at h
    have hne : (m == id) = false := by
      simp only [beq_eq_false_iff_ne]; intro e; rw [e] at hb; simp at hb
    simp only [List.map_cons, AI.den, exitTo, hne]; exact aExit_none h
  | .code _ :: k, h | .inLoop _ :: k, h | .inScope _ :: k, h | .endRF _ :: k, h | .beginRound :: k, h => by
    simp only [aExit] at h
    simp only [List.map_cons, AI.den, exitTo]; exact aExit_none h
theorem aGoto_none {ρ : Env} {l : Nat} : ∀ {k : List AI}, aGoto l k = none → gotoIn l (k.map (AI.den ρ)) = none
  | [], _ => rfl
  | .inScope body :: k, h => by
    simp only [aGoto] at h
    split at h
    · simp at h
    · rename_i hr
      simp only [List.map_cons, AI.den, gotoIn, hr]; exact aGoto_none h
  | .code _ :: k, h | .inLoop _ :: k, h | .inBlock _ :: k, h | .endRF _ :: k, h | .beginRound :: k, h => by
    simp only [aGoto] at h
    simp only [List.map_cons, AI.den, gotoIn]; exact aGoto_none h

def setDst (fr : Fr) (d : Option Nat) (v : V) : Option Fr :=
  match d with
  | none => some fr
  | some d => bif Nat.blt d fr.sz then some { fr with t := fr.t.set d v } else none

/-- the frame is real -/
structure FrOk (ρ : Env) (n : Nat) (fr : Fr) (a : Act) : Prop where
  t : TRel ρ n fr.t a.tmps
  sz : a.tmps.size = fr.sz
  ds : a.defers = fr.ds.map (AD.den ρ)
  dw : ∀ d ∈ fr.ds, d.wf n
theorem FrOk.agree {ρ ρ' : Env} {n n' : Nat} {fr : Fr} {a : Act} (h : FrOk ρ n fr a) (ha : Env.agree n ρ ρ') (hn : n ≤ n') : FrOk ρ' n' fr a :=
  ⟨h.t.agree ha hn, h.sz, by rw [h.ds]; exact List.map_congr_left fun d hd => AD.den_agree ha (h.dw d hd), fun d hd => AD.wf_mono hn (h.dw d hd)⟩
theorem setDst_ok {ρ : Env} {n : Nat} {fr fr' : Fr} {a : Act} (h : FrOk ρ n fr a) {d : Option Nat} {v : V} (hv : v.wf n) (hs : setDst fr d v = some fr') : FrOk ρ n fr' (a.put d (v.den ρ)) := by
  cases d with
  | none => simp [setDst] at hs; subst hs; exact h
  | some d =>
    simp only [setDst] at hs
    cases hb : Nat.blt d fr.sz <;> simp [hb] at hs
    subst hs
    have hlt : d < fr.sz := by simpa [Nat.blt_eq] using hb
    exact ⟨by have := h.t.set hv (d := d) (by rw [h.sz]; exact hlt); exact this, by simp [Act.put, h.sz], h.ds, h.dw⟩

theorem evalT_eq (a : Act) : evalT a.tmps = a.eval := by funext x; cases x <;> rfl
theorem FrOk.ev {ρ : Env} {n : Nat} {fr : Fr} {a : Act} (h : FrOk ρ n fr a) : EvRel ρ n fr.t a.eval := by rw [← evalT_eq]; exact EvRel.of_tmps h.t

def initT : List V → Nat → Tr V → Tr V
  | [], _, t => t
  | v :: l, n, t => initT l (n + 1) (t.set n v)
theorem initT_get : ∀ (l : List V) (n : Nat) (t : Tr V) (k : Nat) (v : V), (initT l n t).get k = some v → (∃ j, l[j]? = some v ∧ k = n + j) ∨ t.get k = some v
  | [], n, t, k, v, h => .inr h
  | u :: l, n, t, k, v, h => by
    rcases initT_get l (n + 1) _ k v h with ⟨j, h1, h2⟩ | h
    · exact .inl ⟨j + 1, by simpa using h1, by omega⟩
    · rcases Tr.get_set h with ⟨rfl, rfl⟩ | ⟨_, h⟩
      · exact .inl ⟨0, rfl, rfl⟩
      · exact .inr h
theorem initT_ok {ρ : Env} {n : Nat} {args : List V} (hw : V.wfL n args) (pad : Nat) : TRel ρ n (initT args 0 .e) ((V.denL ρ args).toArray ++ Array.replicate pad undef) := by
  intro k v h
  rcases initT_get _ _ _ _ _ h with ⟨j, h1, h2⟩ | h
  · rw [Nat.zero_add] at h2; subst h2
    have hlt := (List.getElem?_eq_some_iff.1 h1).1
    refine ⟨?_, (V.wfL_iff _ _).1 hw v (mem_of_getElem? h1)⟩
    rw [Array.getElem?_append_left (by simpa [V.denL_eq] using hlt)]
    simp [V.denL_eq, h1]
  · simp [Tr.get] at h

/-- is an operation wanted? -/
inductive Wanted where
  | yes | no | ask (c : Tm) | bad
def wantedT (fc : Facts) (want : Bool) : V → Wanted
  | .bool c => match tv fc c with
    | some b => bif (bif b then want else not want) then .yes else .no
    | none => .ask c
  | .tuple _ => .no
  | _ => .bad
def wanted (st : St) (t : Tr V) (all : Array Oper) (o : Oper) : Wanted :=
  match o.guard with
  | none => .yes
  | some (j, want) => match all[j]? with
    | some oj => match oj.dst with
      | some d => match t.get d with
        | some v => wantedT st.fc want v
        | none => .bad
      | none => .no
    | none => .no
def WantedOk (n : Nat) (b : Bool) : Wanted → Prop
  | .yes => b = true
  | .no => b = false
  | .ask c => c.wf n
  | .bad => True
theorem wanted_spec {ρ : Env} {st : St} {w : World} (hR : Real ρ st w) {t : Tr V} {a : Act} (hT : TRel ρ st.nx t a.tmps) (all : Array Oper) (o : Oper) :
    WantedOk st.nx (Region.wanted o (yielded all a.tmps)) (wanted st t all o) := by
  unfold wanted Region.wanted
  split
  · rename_i h; rw [h]; rfl
  · rename_i j want h
    rw [h]
    dsimp only
    split
    · rename_i oj hoj
      split
      · rename_i d hd
        split
        · rename_i v hv
          obtain ⟨h1, h2⟩ := hT d v hv
          have hy : yielded all a.tmps j = match v.den ρ with | .bool b => some b | _ => none := by
            unfold yielded
            rw [hoj]
            simp only [Option.bind_some, hd, h1]
            cases v.den ρ <;> rfl
          rw [hy]
          cases v
          case bool c =>
            simp only [wantedT, V.den]
            split
            · rename_i b hb
              have := tv_sound hR.fc hb
              rw [this]
              cases b <;> cases want <;> rfl
            · exact h2
          case tuple l => simp only [V.den, wantedT]; cases want <;> rfl
          all_goals trivial
        · trivial
      · rename_i hd
        have : yielded all a.tmps j = none := by unfold yielded; rw [hoj]; simp [hd]
        rw [this]; cases want <;> rfl
    · rename_i hoj
      have : yielded all a.tmps j = none := by unfold yielded; rw [hoj]; rfl
      rw [this]; cases want <;> rfl
end Go.Sx
