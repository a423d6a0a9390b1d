/- A part of a symbolic evaluator over the model and of the proof that it is right: 'SxMv'. It holds for every program; no condition. -/
import Derived.Test.YtaebmdinecilbaaGreatDoorSxSm
namespace Go.Sx

/-! ## Results, one by one -/
def leaves {α : Type} : Res α → List α
  | .ok a => [a]
  | .fork _ l r => leaves l ++ leaves r
  | .bad _ => []
def noBad {α : Type} : Res α → Bool
  | .ok _ => true
  | .fork _ l r => noBad l && noBad r
  | .bad _ => false
theorem Holds.leaf {α : Type} {n : Nat} : ∀ {t : Res α} {ρ : Env} {Q : Env → α → Prop}, Holds n ρ t Q → noBad t = true → ∃ ρ' a, Env.agree n ρ ρ' ∧ Q ρ' a ∧ a ∈ leaves t
  | .ok a, ρ, Q, ⟨ρ2, h2, q⟩, _ => ⟨ρ2, a, h2, q, by simp [leaves]⟩
  | .fork c l r, ρ, Q, ⟨ρ2, h2, q1, q2⟩, h => by
    simp only [noBad, Bool.and_eq_true] at h
    by_cases hc : c.den ρ2 = 0
    · obtain ⟨ρ3, a, h3, q, hm⟩ := (q2 hc).leaf h.2
      exact ⟨ρ3, a, h2.trans h3, q, List.mem_append_right _ hm⟩
    · obtain ⟨ρ3, a, h3, q, hm⟩ := (q1 hc).leaf h.1
      exact ⟨ρ3, a, h2.trans h3, q, List.mem_append_left _ hm⟩
def todoOf (a : Out × St) : List AI := match a.1 with | .frame _ (.hd t) => t | _ => []

/-! ## A player is moved: two players lie in one row of cells; one of them gets another index, and some grade -/
def mvBig : Tm := .ite (.lt (.lit 10000) (.ite (.lt (.add (.var 0) (.var 1)) (.lit (-10000))) (.lit (-10000)) (.add (.var 0) (.var 1)))) (.lit 10000) (.ite (.lt (.add (.var 0) (.var 1)) (.lit (-10000))) (.lit (-10000)) (.add (.var 0) (.var 1)))
def mvL (o3 : Bool) (a b o0 o1 o2 o3' : V) : List V := bif o3 then [o0, o1, o2, o3', a, b] else [o0, a, b, o1, o2, o3']
def mvCells (o3 : Bool) : List V := mvL o3 (.int .i64 (.var 0)) (.int .i64 (.var 2)) (.opq 2) (.opq 3) (.opq 4) (.opq 5)
/-- at the beginning; at the head of a loop -/
def mvStA (o3 : Bool) : St := { h := Tr.e.set 6 (.cells true (mvCells o3) (some (.var 7))), nx := 8, fc := [(.var 0, -10000, 10000), (.var 1, -20, 20), (.var 2, -12, 48)] }
def mvStC (o3 : Bool) : St := { h := Tr.e.set 6 (.cells true (mvCells o3) (some (.var 7))), nx := 8, fc := [(.var 0, -10000, 10000), (.var 2, -12, 48)] }
def mvPtr (o3 : Bool) : V := .ptr 6 (bif o3 then 3 else 0)
def mvArgs (o3 : Bool) : List V := [mvPtr o3, .int .i64 (.var 1)]
def mvFr (o3 : Bool) (sz : Nat) : Fr := { t := Tr.e.set 0 (mvPtr o3), sz := sz, ds := [] }
/-- the cells behind: an index, a grade -/
def mvAt (o3 : Bool) (st : St) (T G : Tm) : Bool :=
  within st.fc G (-12) 48 && match st.h.get 6 with
  | some (.cells true [x0, x1, x2, x3, x4, x5] (some sz)) => sz.beq (.var 7) && (bif o3 then
      (V.beq x4 (.int .i64 T) && V.beq x5 (.int .i64 G) && V.beq x0 (.opq 2) && V.beq x1 (.opq 3) && V.beq x2 (.opq 4) && V.beq x3 (.opq 5)) else
      (V.beq x1 (.int .i64 T) && V.beq x2 (.int .i64 G) && V.beq x0 (.opq 2) && V.beq x3 (.opq 3) && V.beq x4 (.opq 4) && V.beq x5 (.opq 5)))
  | _ => false
theorem mvAt_spec {o3 : Bool} {st : St} {T G : Tm} (h : mvAt o3 st T G = true) : within st.fc G (-12) 48 = true ∧ st.h.get 6 = some (.cells true (mvL o3 (.int .i64 T) (.int .i64 G) (.opq 2) (.opq 3) (.opq 4) (.opq 5)) (some (.var 7))) := by
  unfold mvAt at h
  rw [Bool.and_eq_true] at h
  refine ⟨h.1, ?_⟩
  have h := h.2
  split at h
  · rename_i x0 x1 x2 x3 x4 x5 sz e2
    simp only [Bool.and_eq_true] at h
    obtain ⟨h2, h3⟩ := h
    have := Tm.beq_eq h2; subst this
    cases o3
    · simp only [cond_false, Bool.and_eq_true] at h3
      obtain ⟨⟨⟨⟨⟨a, b⟩, c⟩, d⟩, e⟩, f⟩ := h3
      rw [V.beq_eq a, V.beq_eq b, V.beq_eq c, V.beq_eq d, V.beq_eq e, V.beq_eq f] at e2
      exact e2
    · simp only [cond_true, Bool.and_eq_true] at h3
      obtain ⟨⟨⟨⟨⟨a, b⟩, c⟩, d⟩, e⟩, f⟩ := h3
      rw [V.beq_eq a, V.beq_eq b, V.beq_eq c, V.beq_eq d, V.beq_eq e, V.beq_eq f] at e2
      exact e2
  · simp at h
def mvFrOk (o3 : Bool) (sz : Nat) (fr : Fr) : Bool := Nat.beq fr.sz sz && (match fr.ds with | [] => true | _ => false) && (match fr.t.get 0 with | some v => V.beq v (mvPtr o3) | none => false)
/-- how a piece ends: 1 at a loop's head with the grade G1; 2 there with the grade as it was; 3 left -/
def mvTag (o3 : Bool) (sz : Nat) (T G1 : Tm) (a : Out × St) : Nat :=
  match a.1 with
  | .frame fr (.hd _) => bif mvFrOk o3 sz fr then (bif mvAt o3 a.2 T G1 then 1 else bif mvAt o3 a.2 T (.var 2) then 2 else 0) else 0
  | .frame fr (.leave _) => bif mvFrOk o3 sz fr && mvAt o3 a.2 T (.var 2) then 3 else 0
  | _ => 0

theorem mvTag_spec {o3 : Bool} {sz : Nat} {T G1 : Tm} {a : Out × St} :
    (mvTag o3 sz T G1 a = 1 → ∃ fr td, a.1 = .frame fr (.hd td) ∧ mvFrOk o3 sz fr = true ∧ mvAt o3 a.2 T G1 = true) ∧
    (mvTag o3 sz T G1 a = 2 → ∃ fr td, a.1 = .frame fr (.hd td) ∧ mvFrOk o3 sz fr = true ∧ mvAt o3 a.2 T (.var 2) = true) ∧
    (mvTag o3 sz T G1 a = 3 → ∃ fr j, a.1 = .frame fr (.leave j) ∧ mvFrOk o3 sz fr = true ∧ mvAt o3 a.2 T (.var 2) = true) := by
  unfold mvTag
  split
  · rename_i fr td e
    cases hf : mvFrOk o3 sz fr
    · simp
    · cases h1 : mvAt o3 a.2 T G1
      · cases h2 : mvAt o3 a.2 T (.var 2)
        · simp
        · refine ⟨by simp, fun _ => ⟨fr, td, e, hf, rfl⟩, by simp⟩
      · refine ⟨fun _ => ⟨fr, td, e, hf, rfl⟩, by simp, by simp⟩
  · rename_i fr j e
    cases hc : (mvFrOk o3 sz fr && mvAt o3 a.2 T (.var 2))
    · simp
    · rw [Bool.and_eq_true] at hc
      exact ⟨by simp, by simp, fun _ => ⟨fr, j, e, hc.1, hc.2⟩⟩
  · simp
/-- a world that differs but in one block -/
structure WR (B : Nat) (w w' : World) : Prop where
  os : w'.os = w.os
  tape : w'.tape = w.tape
  output : w'.output = w.output
  size : w.heap.size ≤ w'.heap.size
  keep : ∀ k, k < w.heap.size → k ≠ B → w'.heap[k]? = w.heap[k]?
theorem WR.trans {B : Nat} {w w1 w2 : World} (h : WR B w w1) (k : WR B w1 w2) : WR B w w2 :=
  ⟨k.os.trans h.os, k.tape.trans h.tape, k.output.trans h.output, Nat.le_trans h.size k.size, fun j hj hn => (k.keep j (Nat.lt_of_lt_of_le hj h.size) hn).trans (h.keep j hj hn)⟩

section
variable {P : Program} {C : Ctx}
theorem mv_img {ρ : Env} {o3 : Bool} {st : St} {w w' : World} {ρ' : Env} {st' : St} (hh : st.h = (mvStC o3).h) (h : Step ρ st w ρ' st' w') : WR (ρ.b 6) w w' :=
  ⟨h.os, h.tape, h.output, h.size, fun k hk hn => h.keep k hk (by
    rintro ⟨j, ob, hj, _, hb⟩
    rw [hh] at hj
    rcases Tr.get_set hj with ⟨rfl, _⟩ | ⟨_, hj⟩
    · exact hn hb.symm
    · simp [Tr.get] at hj)⟩

/-- behind a piece all is as at a loop's head, for other numbers -/
theorem mv_again {ρ : Env} {o3 : Bool} {st : St} {w w' : World} {ρ' : Env} {st' : St} {T G : Tm} (hh : st.h = (mvStC o3).h) (hn : st.nx = 8) (h : Step ρ st w ρ' st' w') (hat : mvAt o3 st' T G = true) (hT : -10000 ≤ T.den ρ' ∧ T.den ρ' ≤ 10000) :
    Real { ρ with i := fun n => if n = 0 then T.den ρ' else if n = 2 then G.den ρ' else ρ.i n } (mvStC o3) w' := by
  obtain ⟨h1, h2⟩ := mvAt_spec hat
  have hG := within_ok h.real.fc h1
  obtain ⟨_, _, obj, hobj, hrel⟩ := h.real.obj 6 _ h2
  have ha := h.agree
  rw [hn] at ha
  have hb6 : ρ'.b 6 = ρ.b 6 := (ha 6 (by omega)).2.1.symm
  have ho6 : ρ'.o 6 = ρ.o 6 := (ha 6 (by omega)).2.2.2.symm
  cases obj <;> simp only [ObRel] at hrel
  rename_i arr ty fz
  obtain ⟨q1, q2, q3, q4⟩ := hrel
  have get6 : ∀ j ob, (mvStC o3).h.get j = some ob → j = 6 ∧ ob = .cells true (mvCells o3) (some (.var 7)) := by
    intro j ob hj
    rcases Tr.get_set hj with ⟨rfl, rfl⟩ | ⟨_, hj⟩
    · exact ⟨rfl, rfl⟩
    · simp [Tr.get] at hj
  refine ⟨fun j ob hj => ?_, fun j j' ob ob' hj hj' hne _ => absurd ((get6 j ob hj).1.trans (get6 j' ob' hj').1.symm) hne, ?_, ?_⟩
  · obtain ⟨rfl, rfl⟩ := get6 j ob hj
    refine ⟨by simp [mvStC], ⟨by cases o3 <;> simp [mvCells, mvL, V.wfL, V.wf, mvStC], fun t ht => by simp at ht; subst ht; simp [mvStC]⟩, _, by rw [← hb6]; exact hobj, ?_⟩
    have hv : ∀ n, n < 8 → ρ'.v n = ρ.v n := fun n hn => (ha n hn).2.2.1.symm
    have hden : V.denL { ρ with i := fun n => if n = 0 then T.den ρ' else if n = 2 then G.den ρ' else ρ.i n } (mvCells o3) = V.denL ρ' (mvL o3 (.int .i64 T) (.int .i64 G) (.opq 2) (.opq 3) (.opq 4) (.opq 5)) := by
      cases o3 <;> simp [mvCells, mvL, V.denL, V.den, hv 2 (by omega), hv 3 (by omega), hv 4 (by omega), hv 5 (by omega)]
    have hlen : ∀ a b, (mvL o3 a b (.opq 2) (.opq 3) (.opq 4) (.opq 5)).length = 6 := by intro a b; cases o3 <;> rfl
    refine ⟨fun i v hi hne => ?_, ?_, fun t ht => ?_, fun _ => q4 trivial⟩
    · have hi' := congrArg (fun l => l[i]?) hden
      simp only [V.denL_eq, List.getElem?_map, hi, Option.map_some] at hi'
      cases hc : (mvL o3 (.int .i64 T) (.int .i64 G) (.opq 2) (.opq 3) (.opq 4) (.opq 5))[i]? with
      | none => rw [hc] at hi'; simp at hi'
      | some y =>
        rw [hc] at hi'
        simp only [Option.map_some, Option.some.injEq] at hi'
        rw [hi']
        have := q1 i y hc (by
          intro e; subst e
          have := mem_of_getElem? hc
          cases o3 <;> simp [mvL] at this)
        rw [ho6] at this
        exact this
    · have := q2
      rw [hlen, ho6] at this
      rw [show (mvCells o3).length = 6 from hlen _ _]; exact this
    · simp at ht; subst ht
      have := q3 (.var 7) rfl
      rw [ho6] at this
      rw [this]
      have h7 : ρ'.i 7 = ρ.i 7 := (ha 7 (by omega)).1.symm
      simp [Tm.den, h7]
  · intro f hf
    simp only [mvStC, List.mem_cons, List.not_mem_nil, or_false] at hf
    rcases hf with rfl | rfl
    · simp only [Tm.den, if_true]; exact hT
    · simp [Tm.den]; exact hG
  · intro f hf
    simp only [mvStC, List.mem_cons, List.not_mem_nil, or_false] at hf
    rcases hf with rfl | rfl <;> simp [Tm.wf, mvStC]
theorem mv_fr {ρ ρ' : Env} {o3 : Bool} {n sz : Nat} {fr : Fr} {a : Act} (h : FrOk ρ' n fr a) (hk : mvFrOk o3 sz fr = true) (hb : ρ'.b 6 = ρ.b 6) (ho : ρ'.o 6 = ρ.o 6) : FrOk ρ 8 (mvFr o3 sz) a := by
  unfold mvFrOk at hk
  simp only [Bool.and_eq_true] at hk
  obtain ⟨⟨k1, k2⟩, k3⟩ := hk
  refine ⟨fun k v hv => ?_, h.sz.trans (Nat.eq_of_beq_eq_true k1), ?_, fun d hd => by simp [mvFr] at hd⟩
  · rcases Tr.get_set hv with ⟨rfl, rfl⟩ | ⟨_, hv⟩
    · split at k3
      · rename_i u hu
        obtain ⟨g1, _⟩ := h.t 0 u hu
        rw [V.beq_eq k3] at g1
        refine ⟨by rw [g1]; simp [mvPtr, V.den, hb, ho], by simp [mvPtr, V.wf]⟩
      · simp at k3
    · simp [Tr.get] at hv
  · rw [h.ds]
    split at k2
    · rename_i e; rw [e]; rfl
    · simp at k2

def aiPlain : AI → Bool
  | .endRF _ => false
  | _ => true
theorem plain_wf {L : List AI} (h : L.all aiPlain = true) (n : Nat) : AI.wfL n L := by
  intro x hx
  have := List.all_eq_true.1 h x hx
  cases x <;> first | trivial | simp [aiPlain] at this
theorem plain_den {L : List AI} (h : L.all aiPlain = true) (ρ ρ' : Env) : L.map (AI.den ρ) = L.map (AI.den ρ') := by
  refine List.map_congr_left fun x hx => ?_
  have := List.all_eq_true.1 h x hx
  cases x <;> first | rfl | simp [aiPlain] at this
/-- what the kernel reckons of the pieces -/
structure MvRuns (C : Ctx) (f gm : Nat) (x : FnI) (o3 : Bool) (L1 L2 : List AI) : Prop where
  res : x.results = []
  bA : noBad (ev C f (.frame ⟨gm, .normal, none, x.plans, some 0⟩ [.code x.code] { t := initT (mvArgs o3) 0 .e, sz := Nat.add 2 (Nat.sub x.ntmps 2), ds := [] }) (mvStA o3)) = true
  A : (leaves (ev C f (.frame ⟨gm, .normal, none, x.plans, some 0⟩ [.code x.code] { t := initT (mvArgs o3) 0 .e, sz := Nat.add 2 (Nat.sub x.ntmps 2), ds := [] }) (mvStA o3))).map (fun a => (mvTag o3 (Nat.add 2 (Nat.sub x.ntmps 2)) mvBig (.var 2) a, todoOf a)) = [(1, L1)]
  b1 : noBad (ev C f (.frame ⟨gm, .normal, none, x.plans, some 0⟩ L1 (mvFr o3 (Nat.add 2 (Nat.sub x.ntmps 2)))) (mvStC o3)) = true
  l1 : (leaves (ev C f (.frame ⟨gm, .normal, none, x.plans, some 0⟩ L1 (mvFr o3 (Nat.add 2 (Nat.sub x.ntmps 2)))) (mvStC o3))).map (fun a => (mvTag o3 (Nat.add 2 (Nat.sub x.ntmps 2)) (.var 0) (.add (.var 2) (.lit (-1))) a, todoOf a)) = [(1, L1), (2, L2), (1, L1), (2, L2), (2, L2)]
  b2 : noBad (ev C f (.frame ⟨gm, .normal, none, x.plans, some 0⟩ L2 (mvFr o3 (Nat.add 2 (Nat.sub x.ntmps 2)))) (mvStC o3)) = true
  l2 : (leaves (ev C f (.frame ⟨gm, .normal, none, x.plans, some 0⟩ L2 (mvFr o3 (Nat.add 2 (Nat.sub x.ntmps 2)))) (mvStC o3))).map (fun a => (mvTag o3 (Nat.add 2 (Nat.sub x.ntmps 2)) (.var 0) (.add (.var 2) (.lit 1)) a, todoOf a)) = [(1, L2), (3, []), (1, L2), (3, []), (3, [])]
  ok1 : L1.all (itemOk x.plans) = true
  ok2 : L2.all (itemOk x.plans) = true
  p1 : L1.all aiPlain = true
  p2 : L2.all aiPlain = true

theorem itemsOk_all {pl : Tr (List PA)} {L : List AI} (h : L.all (itemOk pl) = true) : ItemsOk pl L := fun x hx => List.all_eq_true.1 h x hx
def mvEnv (ρ : Env) (x g : Int) : Env := { ρ with i := fun n => if n = 0 then x else if n = 2 then g else ρ.i n }
theorem mvEnv_env (ρ : Env) (x g x' g' : Int) : mvEnv (mvEnv ρ x g) x' g' = mvEnv ρ x' g' := by
  unfold mvEnv
  simp only [Env.mk.injEq, and_true]
  funext n
  by_cases h0 : n = 0
  · simp [h0]
  · by_cases h2 : n = 2
    · simp [h2]
    · simp [h0, h2]

section
variable {f gm : Nat} {x : FnI} {o3 : Bool} {L1 L2 : List AI}
/-- where a frame is, for numbers of the two -/
structure MvHead (P : Program) (gm sz : Nat) (o3 : Bool) (L : List AI) (cs : List Frame) (ρ : Env) (xv g : Int) (m : Machine) (w : World) : Prop where
  real : Real (mvEnv ρ xv g) (mvStC o3) w
  at_ : ∃ a, FrOk (mvEnv ρ xv g) 8 (mvFr o3 sz) a ∧ m = lone (({ (default : Frame) with fn := gm, kind := .normal } : Frame).atR a (L.map (AI.den ρ))) cs w
/-- a frame that is left -/
def MvEnd (P : Program) (gm : Nat) (o3 : Bool) (cs : List Frame) (ρ : Env) (xv : Int) (m : Machine) (w : World) : Prop :=
  ∃ z w' a todo, WR (ρ.b 6) w w' ∧ Real (mvEnv ρ xv z) (mvStC o3) w' ∧ a.defers = [] ∧ Steps P m (lone { (({ (default : Frame) with fn := gm, kind := .normal } : Frame).atR a todo) with mode := .returning } cs w')
theorem MvEnd.head {cs : List Frame} {ρ : Env} {xv : Int} {m m1 : Machine} {w w1 : World} (hs : Steps P m m1) (hw : WR (ρ.b 6) w w1) (h : MvEnd P gm o3 cs ρ xv m1 w1) : MvEnd P gm o3 cs ρ xv m w := by
  obtain ⟨z, w', a, todo, h1, h2, h3, h4⟩ := h
  exact ⟨z, w', a, todo, hw.trans h1, h2, h3, hs.trans h4⟩

theorem mvHead_rng {sz : Nat} {L : List AI} {cs : List Frame} {ρ : Env} {xv g : Int} {m : Machine} {w : World} (h : MvHead P gm sz o3 L cs ρ xv g m w) : (-10000 ≤ xv ∧ xv ≤ 10000) ∧ -12 ≤ g ∧ g ≤ 48 := by
  have h1 := h.real.fc (.var 0, -10000, 10000) (by simp [mvStC])
  have h2 := h.real.fc (.var 2, -12, 48) (by simp [mvStC])
  simp [Tm.den, mvEnv] at h1 h2
  exact ⟨h1, h2⟩
/-- one piece, from a loop's head -/
theorem mv_piece (hC : C.Ok P) (hM : P.follows .mixedOrders = true) (hPl : PlansOk C) (hSm : SumsOk P C) {L : List AI} {G1 : Tm} (hG1 : G1.wf 8) {sz : Nat} {tags : List (Nat × List AI)}
    (hbad : noBad (ev C f (.frame ⟨gm, .normal, none, x.plans, some 0⟩ L (mvFr o3 sz)) (mvStC o3)) = true)
    (htags : (leaves (ev C f (.frame ⟨gm, .normal, none, x.plans, some 0⟩ L (mvFr o3 sz)) (mvStC o3))).map (fun a => (mvTag o3 sz (.var 0) G1 a, todoOf a)) = tags)
    (hok : L.all (itemOk x.plans) = true) (hpl : ∀ t ∈ tags, t.2.all aiPlain = true) (hplL : L.all aiPlain = true) {cs : List Frame} {ρ : Env} {xv g : Int} {m : Machine} {w : World} (h : MvHead P gm sz o3 L cs ρ xv g m w) :
    ∃ t ∈ tags, ((t.1 = 1 ∨ t.1 = 2) → ∃ w1 m1, WR (ρ.b 6) w w1 ∧ Steps P m m1 ∧ MvHead P gm sz o3 t.2 cs ρ xv (if t.1 = 1 then G1.den (mvEnv ρ xv g) else g) m1 w1) ∧
      (t.1 = 3 → MvEnd P gm o3 cs ρ xv m w) := by
  have hr := mvHead_rng h
  obtain ⟨hreal, a, hF, rfl⟩ := h
  have hB : BOk (mvEnv ρ xv g) 8 ⟨gm, .normal, none, x.plans, some 0⟩ ({ (default : Frame) with fn := gm, kind := .normal } : Frame) cs := ⟨rfl, rfl, fun id h => by simp at h, rfl, .inl rfl⟩
  have hH := (sound hC hM hPl hSm f).frame ⟨gm, .normal, none, x.plans, some 0⟩ L (mvFr o3 sz) (mvStC o3) (mvEnv ρ xv g) w _ a cs hreal hB (plain_wf hplL 8) (itemsOk_all hok) hF
  obtain ⟨ρ', r, ha, ⟨w', hst, fr, o, e, hout⟩, hmem⟩ := hH.leaf hbad
  have htag : (mvTag o3 sz (.var 0) G1 r, todoOf r) ∈ tags := by rw [← htags]; exact List.mem_map_of_mem hmem
  have hag : Env.agree 8 (mvEnv ρ xv g) ρ' := hst.agree
  have hT : (Tm.var 0).den ρ' = xv := by rw [← Tm.den_agree hag (t := .var 0) (by simp [Tm.wf])]; simp [Tm.den, mvEnv]
  have hV2 : (Tm.var 2).den ρ' = g := by rw [← Tm.den_agree hag (t := .var 2) (by simp [Tm.wf])]; simp [Tm.den, mvEnv]
  have hwr : WR (ρ.b 6) w w' := mv_img (ρ := mvEnv ρ xv g) (o3 := o3) rfl hst
  have hb6 : ρ'.b 6 = ρ.b 6 := (hag 6 (by omega)).2.1.symm
  have ho6 : ρ'.o 6 = ρ.o 6 := (hag 6 (by omega)).2.2.2.symm
  have again : ∀ G, mvAt o3 r.2 (.var 0) G = true → Real (mvEnv ρ xv (G.den ρ')) (mvStC o3) w' := by
    intro G hG
    have := mv_again (o3 := o3) rfl rfl hst hG (by rw [hT]; exact hr.1)
    have e2 : ({ mvEnv ρ xv g with i := fun n => if n = 0 then (Tm.var 0).den ρ' else if n = 2 then G.den ρ' else (mvEnv ρ xv g).i n } : Env) = mvEnv ρ xv (G.den ρ') := by
      rw [hT]; exact mvEnv_env ρ xv g xv (G.den ρ')
    rw [e2] at this
    exact this
  have head : ∀ td G, o = .hd td → mvFrOk o3 sz fr = true → mvAt o3 r.2 (.var 0) G = true → td.all aiPlain = true → ∃ w1 m1, WR (ρ.b 6) w w1 ∧ Steps P (lone (({ (default : Frame) with fn := gm, kind := .normal } : Frame).atR a (L.map (AI.den ρ))) cs w) m1 ∧ MvHead P gm sz o3 td cs ρ xv (G.den ρ') m1 w1 := by
    rintro td G rfl hfr hG htd
    obtain ⟨_, a', hF', hsteps⟩ := hout
    refine ⟨w', _, hwr, ?_, ⟨again G hG, a', mv_fr hF' hfr hb6 ho6, rfl⟩⟩
    rw [plain_den hplL ρ (mvEnv ρ xv g), plain_den htd ρ ρ']
    exact hsteps
  refine ⟨_, htag, fun h12 => ?_, fun h3 => ?_⟩
  · have hp := hpl _ htag
    dsimp only at h12 hp ⊢
    rcases h12 with h12 | h12
    · obtain ⟨fr', td, e', hf, h1⟩ := mvTag_spec.1 h12
      rw [e'] at e
      simp only [Out.frame.injEq] at e
      obtain ⟨rfl, rfl⟩ := e
      unfold todoOf at hp ⊢
      rw [e'] at hp ⊢
      have := head td G1 rfl hf h1 hp
      rw [← Tm.den_agree hag hG1] at this
      rw [if_pos h12]
      exact this
    · obtain ⟨fr', td, e', hf, h1⟩ := mvTag_spec.2.1 h12
      rw [e'] at e
      simp only [Out.frame.injEq] at e
      obtain ⟨rfl, rfl⟩ := e
      unfold todoOf at hp ⊢
      rw [e'] at hp ⊢
      have := head td (.var 2) rfl hf h1 hp
      rw [hV2] at this
      rw [if_neg (by rw [h12]; decide)]
      exact this
  · obtain ⟨fr', j, e', hf, h1⟩ := mvTag_spec.2.2 h3
    rw [e'] at e
    simp only [Out.frame.injEq] at e
    obtain ⟨rfl, rfl⟩ := e
    obtain ⟨a', todo', hF', hsteps⟩ := hout.1 rfl
    have hd := (mv_fr (ρ := ρ) hF' hf hb6 ho6).ds
    have hR2 := again (.var 2) h1
    rw [hV2] at hR2
    refine ⟨g, w', a', todo', hwr, hR2, hd, ?_⟩
    rw [plain_den hplL ρ (mvEnv ρ xv g)]
    exact hsteps

theorem mv_loop2 (hC : C.Ok P) (hM : P.follows .mixedOrders = true) (hPl : PlansOk C) (hSm : SumsOk P C) (hr : MvRuns C f gm x o3 L1 L2) : ∀ (n : Nat) (cs : List Frame) (ρ : Env) (xv g : Int) (m : Machine) (w : World), (48 - g).toNat = n →
    MvHead P gm (Nat.add 2 (Nat.sub x.ntmps 2)) o3 L2 cs ρ xv g m w → MvEnd P gm o3 cs ρ xv m w := by
  intro n
  induction n using Nat.strongRecOn with
  | _ n ih =>
    intro cs ρ xv g m w hn h
    obtain ⟨t, ht, h12, h3⟩ := mv_piece hC hM hPl hSm (by simp [Tm.wf]) hr.b2 hr.l2 hr.ok2 (by
      intro t ht
      simp only [List.mem_cons, List.not_mem_nil, or_false] at ht
      rcases ht with rfl | rfl | rfl | rfl | rfl <;> first | exact hr.p2 | rfl) hr.p2 h
    simp only [List.mem_cons, List.not_mem_nil, or_false] at ht
    have one : t = (1, L2) → MvEnd P gm o3 cs ρ xv m w := by
      rintro rfl
      obtain ⟨w1, m1, hw, hs, hd⟩ := h12 (.inl rfl)
      have hg : (if (1, L2).1 = 1 then (Tm.add (.var 2) (.lit 1)).den (mvEnv ρ xv g) else g) = g + 1 := by simp [Tm.den, mvEnv]
      rw [hg] at hd
      have hb := mvHead_rng hd
      exact (ih _ (by omega) cs ρ xv (g + 1) m1 w1 rfl hd).head hs hw
    rcases ht with ht | ht | ht | ht | ht
    · exact one ht
    · subst ht; exact h3 rfl
    · exact one ht
    · subst ht; exact h3 rfl
    · subst ht; exact h3 rfl
theorem mv_loop1 (hC : C.Ok P) (hM : P.follows .mixedOrders = true) (hPl : PlansOk C) (hSm : SumsOk P C) (hr : MvRuns C f gm x o3 L1 L2) : ∀ (n : Nat) (cs : List Frame) (ρ : Env) (xv g : Int) (m : Machine) (w : World), (g + 12).toNat = n →
    MvHead P gm (Nat.add 2 (Nat.sub x.ntmps 2)) o3 L1 cs ρ xv g m w → MvEnd P gm o3 cs ρ xv m w := by
  intro n
  induction n using Nat.strongRecOn with
  | _ n ih =>
    intro cs ρ xv g m w hn h
    have hb0 := mvHead_rng h
    obtain ⟨t, ht, h12, _⟩ := mv_piece hC hM hPl hSm (by simp [Tm.wf]) hr.b1 hr.l1 hr.ok1 (by
      intro t ht
      simp only [List.mem_cons, List.not_mem_nil, or_false] at ht
      rcases ht with rfl | rfl | rfl | rfl | rfl <;> first | exact hr.p1 | exact hr.p2) hr.p1 h
    simp only [List.mem_cons, List.not_mem_nil, or_false] at ht
    have one : t = (1, L1) → MvEnd P gm o3 cs ρ xv m w := by
      rintro rfl
      obtain ⟨w1, m1, hw, hs, hd⟩ := h12 (.inl rfl)
      have hg : (if (1, L1).1 = 1 then (Tm.add (.var 2) (.lit (-1))).den (mvEnv ρ xv g) else g) = g - 1 := by simp [Tm.den, mvEnv]; omega
      rw [hg] at hd
      have hb := mvHead_rng hd
      exact (ih _ (by omega) cs ρ xv (g - 1) m1 w1 rfl hd).head hs hw
    have two : t = (2, L2) → MvEnd P gm o3 cs ρ xv m w := by
      rintro rfl
      obtain ⟨w1, m1, hw, hs, hd⟩ := h12 (.inr rfl)
      have hg : (if (2, L2).1 = 1 then (Tm.add (.var 2) (.lit (-1))).den (mvEnv ρ xv g) else g) = g := by simp
      rw [hg] at hd
      exact (mv_loop2 hC hM hPl hSm hr _ cs ρ xv g m1 w1 rfl hd).head hs hw
    rcases ht with ht | ht | ht | ht | ht
    · exact one ht
    · exact two ht
    · exact one ht
    · exact two ht
    · exact two ht

/-- the whole call -/
theorem mv_run (hC : C.Ok P) (hM : P.follows .mixedOrders = true) (hPl : PlansOk C) (hSm : SumsOk P C) (hx : C.fn.get gm = some x) (hr : MvRuns C f gm x o3 L1 L2) {ρ : Env} {w : World} {cs : List Frame} (hR : Real ρ (mvStA o3) w) :
    ∃ z w' fr, WR (ρ.b 6) w w' ∧ fr.fn = gm ∧ Steps P (lone (Frame.enter P gm (V.denL ρ (mvArgs o3)).toArray .normal) cs w) (lone fr cs w') ∧ Leaving P .normal fr w' (.tuple #[]) ∧ Real (mvEnv ρ (mvBig.den ρ) z) (mvStC o3) w' := by
  obtain ⟨fn, h1, h2, h3, h4, h5⟩ := hC.fnOf hx
  let b : Frame := { (default : Frame) with fn := gm, kind := .normal }
  let a : Act := { tmps := (V.denL ρ (mvArgs o3)).toArray ++ Array.replicate (fn.ntmps - (V.denL ρ (mvArgs o3)).toArray.size) undef, defers := [] }
  have henter : Frame.enter P gm (V.denL ρ (mvArgs o3)).toArray .normal = b.atR a [.code x.code] := by
    simp [Frame.enter, Frame.atR, h1, h2, b, a]
    rfl
  have hargs : V.wfL 8 (mvArgs o3) := by cases o3 <;> simp [mvArgs, mvPtr, V.wfL, V.wf]
  have hF : FrOk ρ 8 { t := initT (mvArgs o3) 0 .e, sz := Nat.add 2 (Nat.sub x.ntmps 2), ds := [] } a :=
    ⟨initT_ok hargs _, by simp [a, V.denL_eq, h4, mvArgs], rfl, by simp⟩
  have hB : BOk ρ 8 ⟨gm, .normal, none, x.plans, some 0⟩ b cs := ⟨rfl, rfl, fun id h => by simp at h, rfl, .inl rfl⟩
  have hH := (sound hC hM hPl hSm f).frame ⟨gm, .normal, none, x.plans, some 0⟩ [.code x.code] _ (mvStA o3) ρ w b a cs hR hB (AI.wfL_cons trivial (by intro y hy; simp at hy)) (.cons (hPl gm x hx) (by intro y hy; simp at hy)) hF
  obtain ⟨ρ', r, ha, ⟨w1, hst, fr, o, e, hout⟩, hmem⟩ := hH.leaf hr.bA
  have htag : (mvTag o3 (Nat.add 2 (Nat.sub x.ntmps 2)) mvBig (.var 2) r, todoOf r) ∈ [(1, L1)] := by rw [← hr.A]; exact List.mem_map_of_mem hmem
  simp only [List.mem_cons, List.not_mem_nil, or_false, Prod.mk.injEq] at htag
  obtain ⟨t1, t2⟩ := htag
  have hag : Env.agree 8 ρ ρ' := hst.agree
  have hb6 : ρ'.b 6 = ρ.b 6 := (hag 6 (by omega)).2.1.symm
  have ho6 : ρ'.o 6 = ρ.o 6 := (hag 6 (by omega)).2.2.2.symm
  have hwr : WR (ρ.b 6) w w1 := mv_img (st := mvStA o3) (o3 := o3) rfl hst
  have hT : mvBig.den ρ' = mvBig.den ρ := (Tm.den_agree hag (by simp [mvBig, Tm.wf])).symm
  have hTr : -10000 ≤ mvBig.den ρ' ∧ mvBig.den ρ' ≤ 10000 := by
    simp only [mvBig, Tm.den]
    by_cases h1 : ρ'.i 0 + ρ'.i 1 < -10000
    · simp [b2i, h1]
    · by_cases h2 : 10000 < ρ'.i 0 + ρ'.i 1
      · simp [b2i, h1, h2]
      · simp [b2i, h1, h2]; omega
  obtain ⟨fr', td, e', hf, hG⟩ := mvTag_spec.1 t1
  rw [e'] at e
  simp only [Out.frame.injEq] at e
  obtain ⟨rfl, rfl⟩ := e
  unfold todoOf at t2
  rw [e'] at t2
  dsimp only at t2
  subst t2
  generalize (Tm.var 2) = G at hG
  · obtain ⟨_, a', hF', hsteps⟩ := hout
    have hreal : Real (mvEnv ρ (mvBig.den ρ) (G.den ρ')) (mvStC o3) w1 := by
      have := mv_again (o3 := o3) (st := mvStA o3) rfl rfl hst hG hTr
      rw [hT] at this
      exact this
    have hhead : MvHead P gm (Nat.add 2 (Nat.sub x.ntmps 2)) o3 td cs ρ (mvBig.den ρ) (G.den ρ') (lone (b.atR a' (td.map (AI.den ρ))) cs w1) w1 :=
      ⟨hreal, a', mv_fr hF' hf hb6 ho6, rfl⟩
    obtain ⟨z, w', a2, todo, g1, g2, g3, g4⟩ := mv_loop1 hC hM hPl hSm hr _ cs ρ _ _ _ _ rfl hhead
    rw [plain_den hr.p1 ρ ρ'] at g4
    refine ⟨z, w', { b.atR a2 todo with mode := .returning }, hwr.trans g1, rfl, ?_, ?_, g2⟩
    · rw [henter]
      exact hsteps.trans g4
    · refine ⟨rfl, g3, rfl, fn, h1, ?_⟩
      have hrs : fn.results.toList = [] := by rw [h5]; exact hr.res
      have hres : fn.results = #[] := by
        have := congrArg List.toArray hrs
        simpa using this
      simp [results, hres]
end
end
def mvDo (st : St) (id : Nat) (o3 : Bool) (tx tg tb : Tm) (o0 o1 o2 o3' : V) (sz : Option Tm) : Option (V × St) :=
  bif within st.fc tx (-10000) 10000 && within st.fc tb (-20) 20 && within st.fc tg (-12) 48 && o0.one && o1.one && o2.one && o3'.one then
    some (.tuple [], { st with h := st.h.set id (.cells true (mvL o3 (.int .i64 (mvBig.put st.fc (nthT [tx, tb]))) (.int .i64 (.var st.nx)) o0 o1 o2 o3') sz), nx := Nat.add st.nx 1 })
  else none
def moveSum : Summ := fun st args => match args with
  | [.ptr id off, .int .i64 tb] => match st.h.get id with
    | some (.cells true [c0, c1, c2, c3, c4, c5] sz) => bif Nat.beq off 0 then (match c1, c2 with
        | .int .i64 tx, .int .i64 tg => mvDo st id false tx tg tb c0 c3 c4 c5 sz
        | _, _ => none)
      else bif Nat.beq off 3 then (match c4, c5 with
        | .int .i64 tx, .int .i64 tg => mvDo st id true tx tg tb c0 c1 c2 c3 sz
        | _, _ => none)
      else none
    | _ => none
  | _ => none

theorem oneOf_one {v : V} (h : v.one = true) (ρ : Env) : oneOf (v.den ρ) = v.den ρ := by
  cases v <;> first | rfl | (simp [V.one] at h; done) | skip
  rename_i n
  simp only [V.den]
  cases ρ.v n <;> rfl

theorem mvDo_ok {C : Ctx} {P : Program} (hC : C.Ok P) (hM : P.follows .mixedOrders = true) (hPl : PlansOk C) (hSm : SumsOk P C) {f gm : Nat} {x : FnI} {L1 L2 : Bool → List AI} (hx : C.fn.get gm = some x)
    (h : ∀ o3, MvRuns C f gm x o3 (L1 o3) (L2 o3))
    {ρ : Env} {st st1 : St} {w : World} {cs : List Frame} (hR : Real ρ st w) {id : Nat} {o3 : Bool} {tx tg tb : Tm} {o0 o1 o2 o3' : V} {sz : Option Tm} {v : V} (htb : tb.wf st.nx)
    (ho : st.h.get id = some (.cells true (mvL o3 (.int .i64 tx) (.int .i64 tg) o0 o1 o2 o3') sz)) (hd : mvDo st id o3 tx tg tb o0 o1 o2 o3' sz = some (v, st1)) :
    ∃ ρ1 w1 fr, Step ρ st w ρ1 st1 w1 ∧ v.wf st1.nx ∧ fr.fn = gm ∧ Steps P (lone (Frame.enter P gm (V.denL ρ [.ptr id (bif o3 then 3 else 0), .int .i64 tb]).toArray .normal) cs w) (lone fr cs w1) ∧ Leaving P .normal fr w1 (v.den ρ1) := by
  unfold mvDo at hd
  cases hb : (within st.fc tx (-10000) 10000 && within st.fc tb (-20) 20 && within st.fc tg (-12) 48 && o0.one && o1.one && o2.one && o3'.one) <;> simp only [hb, cond_true, cond_false] at hd
  · simp at hd
  simp only [Option.some.injEq, Prod.mk.injEq] at hd
  obtain ⟨rfl, rfl⟩ := hd
  simp only [Bool.and_eq_true] at hb
  obtain ⟨⟨⟨⟨⟨⟨b1, b2⟩, b3⟩, b4⟩, b5⟩, b6⟩, b7⟩ := hb
  have w1 := within_ok hR.fc b1
  have w2 := within_ok hR.fc b2
  have w3 := within_ok hR.fc b3
  obtain ⟨hid, hwf, obj, hobj, hrel⟩ := hR.obj id _ ho
  cases obj <;> simp only [ObRel] at hrel
  rename_i arr ty fz
  obtain ⟨r1, r2, r3, r4⟩ := hrel
  have hlen : (mvL o3 (.int .i64 tx) (.int .i64 tg) o0 o1 o2 o3').length = 6 := by cases o3 <;> rfl
  have hwfl := (V.wfL_iff _ _).1 hwf.1
  have hws : tx.wf st.nx ∧ tg.wf st.nx ∧ o0.wf st.nx ∧ o1.wf st.nx ∧ o2.wf st.nx ∧ o3'.wf st.nx := by
    cases o3 <;> (simp only [mvL, cond_true, cond_false] at hwfl; exact ⟨hwfl (.int .i64 tx) (by simp), hwfl (.int .i64 tg) (by simp), hwfl o0 (by simp), hwfl o1 (by simp), hwfl o2 (by simp), hwfl o3' (by simp)⟩)
  obtain ⟨wx, wg, wo0, wo1, wo2, wo3⟩ := hws
  let ρi : Env := { i := fun n => if n = 0 then tx.den ρ else if n = 1 then tb.den ρ else if n = 2 then tg.den ρ else if n = 7 then (arr.size : Int) - ρ.o id else 0, b := fun _ => ρ.b id, o := fun _ => ρ.o id, v := fun n => if n = 2 then o0.den ρ else if n = 3 then o1.den ρ else if n = 4 then o2.den ρ else o3'.den ρ }
  have hget6 : ∀ j ob, (mvStA o3).h.get j = some ob → j = 6 ∧ ob = .cells true (mvCells o3) (some (.var 7)) := by
    intro j ob hj
    rcases Tr.get_set hj with ⟨rfl, rfl⟩ | ⟨_, hj⟩
    · exact ⟨rfl, rfl⟩
    · simp [Tr.get] at hj
  have cells_of : ∀ {ρa : Env} {l : List V} {arr : Array Value} {base : Nat} {vals : List Value}, V.denL ρa l = vals → (∀ i x, vals[i]? = some x → arr[base + i]? = some x) → CellsRel ρa base l arr := by
    intro ρa l arr base vals hl hv i x hi _
    refine hv i _ ?_
    rw [← hl, V.denL_eq, List.getElem?_map, hi]; rfl
  have hvals : ∀ i x, (V.denL ρ (mvL o3 (.int .i64 tx) (.int .i64 tg) o0 o1 o2 o3'))[i]? = some x → arr[ρ.o id + i]? = some x := by
    intro i x hi
    rw [V.denL_eq, List.getElem?_map] at hi
    cases hc : (mvL o3 (.int .i64 tx) (.int .i64 tg) o0 o1 o2 o3')[i]? with
    | none => rw [hc] at hi; simp at hi
    | some y =>
      rw [hc] at hi
      simp at hi
      subst hi
      refine r1 i y hc ?_
      have hmem := mem_of_getElem? hc
      intro e
      subst e
      cases o3 <;> simp only [mvL, cond_true, cond_false, List.mem_cons, List.not_mem_nil, or_false] at hmem
      · rcases hmem with e | e | e | e | e | e
        · subst e; simp [V.one] at b4
        · simp at e
        · simp at e
        · subst e; simp [V.one] at b5
        · subst e; simp [V.one] at b6
        · subst e; simp [V.one] at b7
      · rcases hmem with e | e | e | e | e | e
        · subst e; simp [V.one] at b4
        · subst e; simp [V.one] at b5
        · subst e; simp [V.one] at b6
        · subst e; simp [V.one] at b7
        · simp at e
        · simp at e
  have hin : V.denL ρi (mvCells o3) = V.denL ρ (mvL o3 (.int .i64 tx) (.int .i64 tg) o0 o1 o2 o3') := by
    cases o3 <;> simp [mvCells, mvL, V.denL, V.den, ρi, oneOf_one b4, oneOf_one b5, oneOf_one b6, oneOf_one b7]
  have hsz : ρ.o id + 6 ≤ arr.size := by rw [← hlen]; exact r2
  have hRi : Real ρi (mvStA o3) w := by
    refine ⟨fun j ob hj => ?_, fun j j' ob ob' hj hj' hne _ => ?_, ?_, ?_⟩
    · obtain ⟨rfl, rfl⟩ := hget6 j ob hj
      refine ⟨by simp [mvStA], ⟨by cases o3 <;> simp [mvCells, mvL, V.wfL, V.wf, mvStA], fun t ht => by simp at ht; subst ht; simp [mvStA]⟩, _, hobj, ?_⟩
      refine ⟨cells_of hin hvals, ?_, fun t ht => ?_, fun _ => r4 trivial⟩
      · have : (mvCells o3).length = 6 := by cases o3 <;> rfl
        rw [this]; exact hsz
      · simp at ht; subst ht
        simp [Tm.den, ρi]
        omega
    · exact absurd ((hget6 j ob hj).1.trans (hget6 j' ob' hj').1.symm) hne
    · intro f hf
      simp only [mvStA, List.mem_cons, List.not_mem_nil, or_false] at hf
      rcases hf with rfl | rfl | rfl
      · simp only [Tm.den, ρi, if_true]; exact w1
      · simp [Tm.den, ρi]; exact w2
      · simp [Tm.den, ρi]; exact w3
    · intro f hf
      simp only [mvStA, List.mem_cons, List.not_mem_nil, or_false] at hf
      rcases hf with rfl | rfl | rfl <;> simp [Tm.wf, mvStA]
  obtain ⟨z, w', fr, hst, hfn, hsteps, hleave, hreal'⟩ := mv_run hC hM hPl hSm hx (h o3) (cs := cs) hRi
  obtain ⟨_, _, obj', hobj', hrel'⟩ := hreal'.obj 6 (.cells true (mvCells o3) (some (.var 7))) (by cases o3 <;> rfl)
  have hb6 : (mvEnv ρi (mvBig.den ρi) z).b 6 = ρ.b id := rfl
  have ho6 : (mvEnv ρi (mvBig.den ρi) z).o 6 = ρ.o id := rfl
  rw [hb6] at hobj'
  cases obj' <;> simp only [ObRel] at hrel'
  rename_i arr' ty' fz'
  obtain ⟨q1, q2, q3, q4⟩ := hrel'
  rw [ho6] at q1 q2 q3
  have hsz' : arr'.size = arr.size := by
    have := q3 (.var 7) rfl
    rw [this]
    simp [Tm.den, mvEnv, ρi]
    omega
  let ρ1 : Env := ρ.setI st.nx z
  have hag : Env.agree st.nx ρ ρ1 := Env.agree_setI
  have hnew : V.denL ρ1 (mvL o3 (.int .i64 (mvBig.put st.fc (nthT [tx, tb]))) (.int .i64 (.var st.nx)) o0 o1 o2 o3') = V.denL (mvEnv ρi (mvBig.den ρi) z) (mvCells o3) := by
    have hT : (mvBig.put st.fc (nthT [tx, tb])).den ρ1 = mvBig.den ρi := by
      have hw2 : (mvBig.put st.fc (nthT [tx, tb])).wf st.nx := Tm.put_wf (m := 2) (fun k hk => by
        match k, hk with
        | 0, _ => exact wx
        | 1, _ => exact htb) (by simp [mvBig, Tm.wf])
      rw [← Tm.den_agree hag hw2]
      have h3 : (mvBig.put st.fc (nthT [tx, tb])).den ρ = mvBig.den { ρi with i := fun n => ((nthT [tx, tb]) n).den ρ } := Tm.put_den hR.fc (fun n => rfl) mvBig
      rw [h3]
      refine Tm.den_agree (n := 2) (fun k hk => ⟨?_, rfl, rfl, rfl⟩) (by simp [mvBig, Tm.wf])
      match k, hk with
      | 0, _ => simp [nthT]
      | 1, _ => simp [nthT]
    have d0 := V.den_agree hag wo0
    have d1 := V.den_agree hag wo1
    have d2 := V.den_agree hag wo2
    have d3 := V.den_agree hag wo3
    cases o3 <;> simp only [mvL, mvCells, cond_true, cond_false, V.denL, V.den, hT, ← d0, ← d1, ← d2, ← d3, Tm.den] <;>
      simp [mvEnv, ρi, oneOf_one b4, oneOf_one b5, oneOf_one b6, oneOf_one b7, ρ1, Env.setI]
  have hkeep : ∀ k, k < w.heap.size → k ≠ ρ.b id → w'.heap[k]? = w.heap[k]? := by
    intro k hk hne
    exact hst.keep k hk hne
  have hx := hR.extend hag (Nat.le_succ st.nx)
  have hbk : ∀ j, j < st.nx → ρ1.b j = ρ.b j := fun j hj => (hag j hj).2.1.symm
  refine ⟨ρ1, w', fr, ⟨hag, Nat.le_succ _, ⟨fun j ob hj => ?_, fun j j' ob ob' hj hj' hne hrw => ?_, hx.fc, hx.fw⟩, hst.os, hst.tape, hst.output, hst.size, fun k hk hi => ?_, ?_, ?_⟩, trivial, hfn, ?_, ?_⟩
  · rcases Tr.get_set hj with ⟨rfl, rfl⟩ | ⟨hne, hj⟩
    · refine ⟨Nat.lt_succ_of_lt hid, ⟨?_, fun t ht => Tm.wf_mono (Nat.le_succ _) (hwf.2 t ht)⟩, _, by rw [hbk _ hid]; exact hobj', ?_⟩
      · have hw2 : (mvBig.put st.fc (nthT [tx, tb])).wf (st.nx + 1) := Tm.put_wf (m := 2) (fun k hk => by
          match k, hk with
          | 0, _ => exact Tm.wf_mono (Nat.le_succ _) wx
          | 1, _ => exact Tm.wf_mono (Nat.le_succ _) htb) (by simp [mvBig, Tm.wf])
        have u0 := V.wf_mono (Nat.le_succ st.nx) wo0
        have u1 := V.wf_mono (Nat.le_succ st.nx) wo1
        have u2 := V.wf_mono (Nat.le_succ st.nx) wo2
        have u3 := V.wf_mono (Nat.le_succ st.nx) wo3
        have u4 : st.nx < st.nx + 1 := Nat.lt_succ_self _
        cases o3
        · exact ⟨u0, hw2, u4, u1, u2, u3, trivial⟩
        · exact ⟨u0, u1, u2, u3, hw2, u4, trivial⟩
      · have hoj : ρ1.o j = ρ.o j := (hag j hid).2.2.2.symm
        refine ⟨?_, ?_, fun t ht => ?_, fun _ => q4 trivial⟩
        · rw [hoj]
          refine cells_of hnew fun i x hi => ?_
          rw [V.denL_eq, List.getElem?_map] at hi
          cases hc : (mvCells o3)[i]? with
          | none => rw [hc] at hi; simp at hi
          | some y =>
            rw [hc] at hi
            simp at hi
            subst hi
            refine q1 i y hc ?_
            intro e; subst e
            have := mem_of_getElem? hc
            cases o3 <;> simp [mvCells, mvL] at this
        · have : (mvL o3 (.int .i64 (mvBig.put st.fc (nthT [tx, tb]))) (.int .i64 (.var st.nx)) o0 o1 o2 o3').length = 6 := by cases o3 <;> rfl
          rw [hoj, this, hsz']; exact hsz
        · rw [hoj, hsz', ← Tm.den_agree hag (hwf.2 t ht)]; exact r3 t ht
    · obtain ⟨a1, a2, ob', a3, a4⟩ := hx.obj j ob hj
      refine ⟨a1, a2, ob', ?_, a4⟩
      have hjl := (hR.obj j ob hj).1
      rw [hbk j hjl] at a3 ⊢
      rw [hkeep _ (lt_of_some a3) (hR.inj j id ob _ hj ho hne (.inr rfl))]; exact a3
  · have get : ∀ {j ob}, (st.h.set id (.cells true (mvL o3 (.int .i64 (mvBig.put st.fc (nthT [tx, tb]))) (.int .i64 (.var st.nx)) o0 o1 o2 o3') sz)).get j = some ob → ∃ ob0, st.h.get j = some ob0 ∧ ob0.rw = ob.rw ∧ j < st.nx := by
      intro j ob hj
      rcases Tr.get_set hj with ⟨rfl, rfl⟩ | ⟨_, hj⟩
      · exact ⟨_, ho, rfl, hid⟩
      · exact ⟨ob, hj, rfl, (hR.obj j ob hj).1⟩
    obtain ⟨p1, p2, p3, p4⟩ := get hj
    obtain ⟨s1, s2, s3, s4⟩ := get hj'
    rw [hbk j p4, hbk j' s4]
    exact hR.inj j j' p1 s1 p2 s2 hne (by rw [p3, s3]; exact hrw)
  · exact hkeep k hk fun e => hi ⟨id, _, ho, rfl, e.symm⟩
  · rintro k ⟨j, ob, hj, hrw, hbj⟩
    rcases Tr.get_set hj with ⟨rfl, rfl⟩ | ⟨_, hj⟩
    · exact .inl ⟨_, _, ho, rfl, by rw [← hbj, hbk _ hid]⟩
    · exact .inl ⟨j, ob, hj, hrw, by rw [← hbj, hbk _ (hR.obj j ob hj).1]⟩
  · rintro k ⟨j, ob, hj, hbj⟩
    rcases Tr.get_set hj with ⟨rfl, rfl⟩ | ⟨_, hj⟩
    · exact .inl ⟨_, _, ho, by rw [← hbj, hbk _ hid]⟩
    · exact .inl ⟨j, ob, hj, by rw [← hbj, hbk _ (hR.obj j ob hj).1]⟩
  · have : V.denL ρ [.ptr id (bif o3 then 3 else 0), .int .i64 tb] = V.denL ρi (mvArgs o3) := by cases o3 <;> simp [mvArgs, mvPtr, V.denL, V.den, ρi, Tm.den]
    rw [this]; exact hsteps
  · exact hleave

theorem moveSum_ok {C : Ctx} {P : Program} (hC : C.Ok P) (hM : P.follows .mixedOrders = true) (hPl : PlansOk C) (hSm : SumsOk P C) {f gm : Nat} {x : FnI} {L1 L2 : Bool → List AI} (hx : C.fn.get gm = some x)
    (h : ∀ o3, MvRuns C f gm x o3 (L1 o3) (L2 o3)) : SumOk P gm moveSum := by
  intro ρ st w args v st1 cs hR hw hs
  unfold moveSum at hs
  split at hs
  · rename_i id off tb
    split at hs
    · rename_i c0 c1 c2 c3 c4 c5 sz ho
      cases h0 : Nat.beq off 0 <;> simp only [h0, cond_true, cond_false] at hs
      · cases h3 : Nat.beq off 3 <;> simp only [h3, cond_true, cond_false] at hs
        · simp at hs
        · have := Nat.eq_of_beq_eq_true h3; subst this
          split at hs
          · exact mvDo_ok hC hM hPl hSm hx h hR (o3 := true) hw.2.1 ho hs
          · simp at hs
      · have := Nat.eq_of_beq_eq_true h0; subst this
        split at hs
        · exact mvDo_ok hC hM hPl hSm hx h hR (o3 := false) hw.2.1 ho hs
        · simp at hs
    · simp at hs
  · simp at hs
end Go.Sx
