/- A part of a symbolic evaluator over the model and of the proof that it is right: 'SxY'. It holds for every program; no condition. -/
import Derived.Test.YtaebmdinecilbaaGreatDoorSxA
import Derived.Orders
namespace Go.Sx

inductive PA where
  | n (i : Nat)
  | r (i : Nat)
  | g (i : Nat)
  | go (x : Nat)
  | fin
  | b (i : Nat)
  | x (i : Nat)
/-- all regions of a code that draw and have a plan have a good one -/
def codeOk (ok : Array Oper → List PA → Bool) (pl : Tr (List PA)) : Code → Bool
  | .seq a b => codeOk ok pl a && codeOk ok pl b
  | .cond _ a b => codeOk ok pl a && codeOk ok pl b
  | .block _ a => codeOk ok pl a
  | .loop a => codeOk ok pl a
  | .scope a => codeOk ok pl a
  | .rangeFunc _ _ a b => codeOk ok pl a && codeOk ok pl b
  | .region id ops true => match pl.get id with
    | some p => ok ops p
    | none => true
  | _ => true


/-! ## Plans for regions that draw their order -/
def edgesOf (o : Oper) : List Nat := (o.after.toList.filter fun e => Region.binds .any e).map (·.on)
def edgesAt (ops : Array Oper) (i : Nat) : List Nat := match ops[i]? with | some o => edgesOf o | none => []

/-- sets of small numbers -/
def bit (s i : Nat) : Bool := Nat.testBit s i
def put (s i : Nat) : Nat := s ||| 2 ^ i
theorem bit_put (s i j : Nat) : bit (put s i) j = (bit s j || decide (i = j)) := by
  unfold bit put
  rw [Nat.testBit_or, Nat.testBit_two_pow]

def ancMask (tbl : List Nat) : List Nat → Nat
  | [] => 0
  | e :: l => (put (tbl.getD e 0) e) ||| ancMask tbl l
theorem ancMask_spec (tbl : List Nat) : ∀ (l : List Nat) (j : Nat), bit (ancMask tbl l) j = true → ∃ e ∈ l, j = e ∨ bit (tbl.getD e 0) j = true
  | [], j, h => by simp [ancMask, bit] at h
  | e :: l, j, h => by
    have h' : (bit (put (tbl.getD e 0) e) j || bit (ancMask tbl l) j) = true := by
      unfold bit at *; rw [← Nat.testBit_or]; exact h
    rw [bit_put] at h'
    simp only [Bool.or_eq_true, decide_eq_true_eq] at h'
    rcases h' with (h' | rfl) | h'
    · exact ⟨e, List.mem_cons_self .., .inr h'⟩
    · exact ⟨e, List.mem_cons_self .., .inl rfl⟩
    · obtain ⟨x, hx, h⟩ := ancMask_spec tbl l j h'
      exact ⟨x, List.mem_cons_of_mem _ hx, h⟩

/-- the table is the ancestors' one, and every edge goes down -/
def ancOk (ops : Array Oper) (tbl : List Nat) : Bool :=
  (List.range ops.size).all fun i => (edgesAt ops i).all (fun e => Nat.blt e i) && Nat.beq (tbl.getD i 0) (ancMask tbl (edgesAt ops i))
def anc (tbl : List Nat) (i j : Nat) : Bool := bit (tbl.getD i 0) j

theorem anc_spec {ops : Array Oper} {tbl : List Nat} (h : ancOk ops tbl = true) {i : Nat} (hi : i < ops.size) {j : Nat} (hj : anc tbl i j = true) :
    ∃ e ∈ edgesAt ops i, e < i ∧ (j = e ∨ anc tbl e j = true) := by
  have h := List.all_eq_true.1 h i (List.mem_range.2 hi)
  simp only [Bool.and_eq_true, List.all_eq_true] at h
  unfold anc at hj
  rw [Nat.eq_of_beq_eq_true h.2] at hj
  obtain ⟨e, he, hx⟩ := ancMask_spec _ _ _ hj
  exact ⟨e, he, by simpa [Nat.blt_eq] using h.1 e he, hx⟩

/-- what is closed under edges is closed under ancestors -/
theorem anc_closed {ops : Array Oper} {tbl : List Nat} (h : ancOk ops tbl = true) {D : Nat → Prop} (hD : ∀ i, i < ops.size → D i → ∀ e ∈ edgesAt ops i, D e) :
    ∀ (i : Nat), i < ops.size → D i → ∀ j, anc tbl i j = true → D j := by
  intro i
  induction i using Nat.strongRecOn with
  | _ i ih =>
    intro hi hd j hj
    obtain ⟨e, he, hlt, hx⟩ := anc_spec h hi hj
    have := hD i hi hd e he
    rcases hx with rfl | hx
    · exact this
    · exact ih e hlt (by omega) this j hx
def mkAncF (ops : Array Oper) : List Oper → List Nat → List Nat
  | [], tbl => tbl
  | o :: l, tbl => mkAncF ops l (tbl ++ [ancMask tbl (edgesOf o)])
def mkAnc (ops : Array Oper) : List Nat := mkAncF ops ops.toList []

/-- the constants of a plan: the operations, the ancestors, the chain, the plain ones, the free fresh ones -/
structure PC where
  ops : Array Oper
  tbl : List Nat
  X : Nat
  N : Nat
  G : Nat
/-- how far a plan has come: what is evaluated; the ancestors of the chain so far; what is checked in this phase -/
structure PSt where
  E : Nat
  M : Nat
  K : Nat
  Q : Nat
  go : Option (Option Nat)

def dstAt (ops : Array Oper) (i : Nat) : Option Nat := match ops[i]? with | some o => o.dst | none => none
def looks (ops : Array Oper) (i : Nat) : List Nat := match ops[i]? with | some o => o.looksAt ops | none => []
def waits (c : PC) (s : PSt) (i : Nat) : Bool := (edgesAt c.ops i).any fun e => !bit s.E e && !bit c.G e
def phaseOk (c : PC) (s : PSt) (next : Option Nat) : Bool :=
  (List.range c.ops.size).all fun i =>
    (!bit c.N i || bit s.E i || waits c s i) && (!bit c.N i || !bit s.E i || bit s.K i || bit s.M i) && (!bit c.G i || bit s.E i || bit s.Q i || waits c s i) &&
    (!bit c.X i || bit s.E i || (match next with | some x => Nat.beq i x || anc c.tbl i x | none => false))
def kindOk (o : Oper) : Bool := match o.op with | .select .. => false | .defer .. => false | _ => true
def opAt (c : PC) (i : Nat) (p : Oper → Bool) : Bool := match c.ops[i]? with | some o => p o && kindOk o | none => false

def planStep (c : PC) (s : PSt) : PA → Option PSt
  | .n i => bif s.go.isNone && bit c.N i && !bit s.E i && (edgesAt c.ops i).all (bit s.E) then some { s with E := put s.E i, K := put s.K i } else none
  | .r i => bif s.go.isNone && bit c.N i && bit s.E i then some { s with K := put s.K i } else none
  | .g i => bif s.go.isNone && bit c.G i && !bit s.E i && (edgesAt c.ops i).all (bit s.E) && opAt c i (fun o => o.guard.isNone && o.dst.isSome) then some { s with Q := put s.Q i } else none
  | .go x => bif s.go.isNone && bit c.X x && !bit s.E x && Nat.blt x c.ops.size && phaseOk c s (some x) then some { s with go := some (some x) } else none
  | .fin => bif s.go.isNone && phaseOk c s none then some { s with go := some none } else none
  | .b i => match s.go with
    | none => none
    | some next => bif bit c.G i && !bit s.E i && (match next with | some x => anc c.tbl x i | none => true) && (edgesAt c.ops i).all (bit s.E) then some { s with E := put s.E i } else none
  | .x i => match s.go with
    | some (some x) => bif Nat.beq i x && (edgesAt c.ops i).all (bit s.E) then some { E := put s.E i, M := put (s.M ||| c.tbl.getD i 0) i, K := 0, Q := 0, go := none } else none
    | _ => none
def planRun (c : PC) : List PA → PSt → Option PSt
  | [], s => some s
  | a :: l, s => match planStep c s a with
    | some s => planRun c l s
    | none => none

/-- temporaries: no two operations write the same; who writes what another looks at is ordered to it -/
def tmpOk (c : PC) : Bool :=
  (List.range c.ops.size).all fun i => opAt c i (fun _ => true) &&
    (bit c.X i != (bit c.N i != bit c.G i)) && !(bit c.N i && bit c.G i) && !(bit c.X i && bit c.N i) && !(bit c.X i && bit c.G i) &&
    (match dstAt c.ops i with | some d => bit c.X i || !(looks c.ops i).elem d | none => true) &&
    (List.range c.ops.size).all fun j => Nat.beq i j || (match dstAt c.ops j with
      | some d => (match dstAt c.ops i with | some d' => !Nat.beq d d' | none => true) &&
          (!(looks c.ops i).elem d || anc c.tbl i j || (anc c.tbl j i && (bit c.X i || bit c.X j)))
      | none => true)

def classes : List PA → Nat × Nat × Nat → Nat × Nat × Nat
  | [], s => s
  | .n i :: l, (x, n, g) => classes l (x, put n i, g)
  | .x i :: l, (x, n, g) => classes l (put x i, n, g)
  | .b i :: l, (x, n, g) => classes l (x, n, put g i)
  | _ :: l, s => classes l s
def mkPC (ops : Array Oper) (acts : List PA) : PC :=
  match classes acts (0, 0, 0) with
  | (x, n, g) => { ops := ops, tbl := mkAnc ops, X := x, N := n, G := g }
def pst0 : PSt := { E := 0, M := 0, K := 0, Q := 0, go := none }
def planOkC (c : PC) (acts : List PA) : Bool :=
  ancOk c.ops c.tbl && tmpOk c && (match planRun c acts pst0 with
    | some s => (match s.go with | some none => true | _ => false) && (List.range c.ops.size).all (bit s.E)
    | none => false)
def planOk (ops : Array Oper) (acts : List PA) : Bool := planOkC (mkPC ops acts) acts

end Go.Sx
