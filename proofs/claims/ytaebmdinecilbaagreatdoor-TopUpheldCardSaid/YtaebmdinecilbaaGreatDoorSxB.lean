/- A part of a symbolic evaluator over the model and of the proof that it is right: 'SxB'. It holds for every program; no condition. -/
import Derived.Test.YtaebmdinecilbaaGreatDoorSxA
namespace Go.Sx

structure Env where
  i : Nat → Int
  b : Nat → Nat
  o : Nat → Nat
  v : Nat → Value

/-- what names below n stand for is the same -/
def Env.agree (n : Nat) (ρ ρ' : Env) : Prop := ∀ k, k < n → ρ.i k = ρ'.i k ∧ ρ.b k = ρ'.b k ∧ ρ.v k = ρ'.v k ∧ ρ.o k = ρ'.o k
theorem Env.agree.refl (n : Nat) (ρ : Env) : Env.agree n ρ ρ := fun _ _ => ⟨rfl, rfl, rfl, rfl⟩
theorem Env.agree.trans {n : Nat} {a b c : Env} (h : Env.agree n a b) (k : Env.agree n b c) : Env.agree n a c :=
  fun j hj => ⟨(h j hj).1.trans (k j hj).1, (h j hj).2.1.trans (k j hj).2.1, (h j hj).2.2.1.trans (k j hj).2.2.1, (h j hj).2.2.2.trans (k j hj).2.2.2⟩
theorem Env.agree.mono {m n : Nat} {a b : Env} (h : Env.agree n a b) (hm : m ≤ n) : Env.agree m a b :=
  fun j hj => h j (Nat.lt_of_lt_of_le hj hm)

/-! ## Terms for whole numbers; a truth value is 0 or 1 -/
inductive Tm where
  | lit (z : Int)
  | var (n : Nat)
  | add (a b : Tm)
  | sub (a b : Tm)
  | mul (a b : Tm)
  | quo (a b : Tm)
  | rem (a b : Tm)
  | wrap (k : IntKind) (a : Tm)
  | eq (a b : Tm)
  | lt (a b : Tm)
  | not (a : Tm)
  | and (a b : Tm)
  | or (a b : Tm)
  | ite (c a b : Tm)

def b2i (b : Bool) : Int := bif b then 1 else 0

@[simp] def Tm.den (ρ : Env) : Tm → Int
  | .lit z => z
  | .var n => ρ.i n
  | .add a b => a.den ρ + b.den ρ
  | .sub a b => a.den ρ - b.den ρ
  | .mul a b => a.den ρ * b.den ρ
  | .quo a b => (a.den ρ).tdiv (b.den ρ)
  | .rem a b => (a.den ρ).tmod (b.den ρ)
  | .wrap k a => k.wrap (a.den ρ)
  | .eq a b => b2i (decide (a.den ρ = b.den ρ))
  | .lt a b => b2i (decide (a.den ρ < b.den ρ))
  | .not a => b2i (decide (a.den ρ = 0))
  | .and a b => b2i (decide (a.den ρ ≠ 0) && decide (b.den ρ ≠ 0))
  | .or a b => b2i (decide (a.den ρ ≠ 0) || decide (b.den ρ ≠ 0))
  | .ite c a b => if c.den ρ = 0 then b.den ρ else a.den ρ

@[simp] def Tm.wf (n : Nat) : Tm → Prop
  | .lit _ => True
  | .var k => k < n
  | .add a b | .sub a b | .mul a b | .quo a b | .rem a b | .eq a b | .lt a b | .and a b | .or a b => a.wf n ∧ b.wf n
  | .wrap _ a | .not a => a.wf n
  | .ite c a b => c.wf n ∧ a.wf n ∧ b.wf n

theorem Tm.den_agree {n : Nat} {ρ ρ' : Env} (h : Env.agree n ρ ρ') : ∀ {t : Tm}, t.wf n → t.den ρ = t.den ρ'
  | .lit _, _ => rfl
  | .var k, hk => (h k hk).1
  | .add _ _, hk | .sub _ _, hk | .mul _ _, hk | .quo _ _, hk | .rem _ _, hk | .eq _ _, hk | .lt _ _, hk | .and _ _, hk | .or _ _, hk => by
    simp only [Tm.den, Tm.den_agree h hk.1, Tm.den_agree h hk.2]
  | .wrap _ a, hk | .not a, hk => by
    have := Tm.den_agree h (t := a) hk
    simp only [Tm.den, this]
  | .ite c a b, hk => by
    simp only [Tm.den, Tm.den_agree h hk.1, Tm.den_agree h hk.2.1, Tm.den_agree h hk.2.2]

theorem Tm.wf_mono {m n : Nat} (h : m ≤ n) : ∀ {t : Tm}, t.wf m → t.wf n
  | .lit _, _ => trivial
  | .var _, hk => Nat.lt_of_lt_of_le hk h
  | .add _ _, hk | .sub _ _, hk | .mul _ _, hk | .quo _ _, hk | .rem _ _, hk | .eq _ _, hk | .lt _ _, hk | .and _ _, hk | .or _ _, hk => ⟨wf_mono h hk.1, wf_mono h hk.2⟩
  | .wrap _ a, hk | .not a, hk => wf_mono (t := a) h hk
  | .ite _ _ _, hk => ⟨wf_mono h hk.1, wf_mono h hk.2.1, wf_mono h hk.2.2⟩

/-! ## Values -/
inductive AFn where
  | fn (f : Fn)           -- any function of the model's but a loop's body
  | yield (id : Nat)

inductive V where
  | bool (t : Tm)
  | int (k : IntKind) (t : Tm)
  | str (s : List UInt8)
  | ptr (id off : Nat)
  | nilPtr
  | slice (id off len : Nat) (cap : Tm)
  | nilSlice
  | map (id : Nat)
  | nilMap
  | func (f : AFn) (first caps : List V)
  | nilFunc
  | iface (t : Nat) (v : V)
  | nilIface
  | agg (l : List V)
  | tuple (l : List V)
  | opq (n : Nat)
  | unk

def AFn.den (ρ : Env) : AFn → Fn
  | .fn f => f
  | .yield id => .yield (ρ.b id)

/-- a value of one cell -/
def oneOf : Value → Value
  | .agg _ | .tuple _ => .nilIface
  | v => v
mutual
def V.den (ρ : Env) : V → Value
  | .bool t => .bool (t.den ρ != 0)
  | .int k t => .int k (t.den ρ)
  | .str s => .string ⟨s.toArray⟩
  | .ptr id off => .pointer (some ⟨ρ.b id, ρ.o id + off, none⟩)
  | .nilPtr => .pointer none
  | .slice id off len cap => .slice (some ⟨ρ.b id, ρ.o id + off, none⟩) len (cap.den ρ).toNat
  | .nilSlice => .slice none 0 0
  | .map id => .map (some (ρ.b id))
  | .nilMap => .map none
  | .func f first caps => .func (f.den ρ) (V.denL ρ first).toArray (V.denL ρ caps).toArray
  | .nilFunc => .nilFunc
  | .iface t v => .iface t (v.den ρ)
  | .nilIface => .nilIface
  | .agg l => .agg (V.denL ρ l).toArray
  | .tuple l => .tuple (V.denL ρ l).toArray
  | .opq n => oneOf (ρ.v n)
  | .unk => undef
def V.denL (ρ : Env) : List V → List Value
  | [] => []
  | v :: l => v.den ρ :: V.denL ρ l
end

def AFn.wf (n : Nat) : AFn → Prop
  | .fn (.yield _) => False
  | .fn _ => True
  | .yield id => id < n
mutual
def V.wf (n : Nat) : V → Prop
  | .bool t => t.wf n
  | .int _ t => t.wf n
  | .ptr id _ => id < n
  | .slice id _ _ cap => id < n ∧ cap.wf n
  | .map id => id < n
  | .func f first caps => f.wf n ∧ V.wfL n first ∧ V.wfL n caps
  | .iface _ v => v.wf n
  | .agg l => V.wfL n l
  | .tuple l => V.wfL n l
  | .opq k => k < n
  | .str _ | .nilPtr | .nilSlice | .nilMap | .nilFunc | .nilIface | .unk => True
def V.wfL (n : Nat) : List V → Prop
  | [] => True
  | v :: l => v.wf n ∧ V.wfL n l
end

theorem V.denL_eq (ρ : Env) : ∀ l, V.denL ρ l = l.map (V.den ρ)
  | [] => rfl
  | v :: l => by simp [V.denL, V.denL_eq ρ l]
theorem V.wfL_iff (n : Nat) : ∀ l, V.wfL n l ↔ ∀ v ∈ l, v.wf n
  | [] => by simp [V.wfL]
  | v :: l => by simp [V.wfL, V.wfL_iff n l]

theorem AFn.den_agree {n : Nat} {ρ ρ' : Env} (h : Env.agree n ρ ρ') : ∀ {f : AFn}, f.wf n → f.den ρ = f.den ρ'
  | .fn _, _ => rfl
  | .yield id, hk => by simp [AFn.den, (h id hk).2.1]
theorem AFn.wf_mono {m n : Nat} (h : m ≤ n) : ∀ {f : AFn}, f.wf m → f.wf n
  | .fn (.func _), _ | .fn (.method _), _ | .fn (.methodOf _ _), _ | .fn (.via _ _ _ _), _ => trivial
  | .fn (.yield _), hk => hk.elim
  | .yield _, hk => Nat.lt_of_lt_of_le hk h

mutual
theorem V.den_agree {n : Nat} {ρ ρ' : Env} (h : Env.agree n ρ ρ') : ∀ {v : V}, v.wf n → v.den ρ = v.den ρ'
  | .bool t, hk => by simp only [V.den, Tm.den_agree h (t := t) hk]
  | .int k t, hk => by simp only [V.den, Tm.den_agree h (t := t) hk]
  | .str _, _ | .nilPtr, _ | .nilSlice, _ | .nilMap, _ | .nilFunc, _ | .nilIface, _ | .unk, _ => rfl
  | .ptr id _, hk => by simp only [V.den, (h id hk).2.1, (h id hk).2.2.2]
  | .slice id _ _ cap, hk => by simp only [V.den, (h id hk.1).2.1, (h id hk.1).2.2.2, Tm.den_agree h hk.2]
  | .map id, hk => by simp only [V.den, (h id hk).2.1]
  | .func f first caps, hk => by simp only [V.den, AFn.den_agree h hk.1, V.denL_agree h hk.2.1, V.denL_agree h hk.2.2]
  | .iface _ v, hk => by simp only [V.den, V.den_agree h (v := v) hk]
  | .agg l, hk => by simp only [V.den, V.denL_agree h (l := l) hk]
  | .tuple l, hk => by simp only [V.den, V.denL_agree h (l := l) hk]
  | .opq k, hk => by simp only [V.den, (h k hk).2.2.1]
theorem V.denL_agree {n : Nat} {ρ ρ' : Env} (h : Env.agree n ρ ρ') : ∀ {l : List V}, V.wfL n l → V.denL ρ l = V.denL ρ' l
  | [], _ => rfl
  | v :: l, hk => by simp only [V.denL, V.den_agree h hk.1, V.denL_agree h hk.2]
end
mutual
theorem V.wf_mono {m n : Nat} (h : m ≤ n) : ∀ {v : V}, v.wf m → v.wf n
  | .bool t, hk => Tm.wf_mono (t := t) h hk
  | .int _ t, hk => Tm.wf_mono (t := t) h hk
  | .str _, _ | .nilPtr, _ | .nilSlice, _ | .nilMap, _ | .nilFunc, _ | .nilIface, _ | .unk, _ => trivial
  | .ptr _ _, hk => Nat.lt_of_lt_of_le hk h
  | .slice _ _ _ _, hk => ⟨Nat.lt_of_lt_of_le hk.1 h, Tm.wf_mono h hk.2⟩
  | .map _, hk => Nat.lt_of_lt_of_le hk h
  | .func _ _ _, hk => ⟨AFn.wf_mono h hk.1, V.wfL_mono h hk.2.1, V.wfL_mono h hk.2.2⟩
  | .iface _ v, hk => V.wf_mono (v := v) h hk
  | .agg l, hk => V.wfL_mono (l := l) h hk
  | .tuple l, hk => V.wfL_mono (l := l) h hk
  | .opq _, hk => Nat.lt_of_lt_of_le hk h
theorem V.wfL_mono {m n : Nat} (h : m ≤ n) : ∀ {l : List V}, V.wfL m l → V.wfL n l
  | [], _ => trivial
  | _ :: _, hk => ⟨V.wf_mono h hk.1, V.wfL_mono h hk.2⟩
end
end Go.Sx
