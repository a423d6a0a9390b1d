/- A part of a symbolic evaluator over the model and of the proof that it is right: 'SxG'. It holds for every program; no condition. -/
import Derived.Test.YtaebmdinecilbaaGreatDoorSxF
namespace Go.Sx

/-! ## Memory: reading -/
def V.one : V → Bool
  | .agg _ | .tuple _ | .unk => false
  | _ => true
def dropN {α : Type} : Nat → List α → List α
  | 0, l => l
  | _ + 1, [] => []
  | n + 1, _ :: l => dropN n l
theorem dropN_eq {α : Type} : ∀ (n : Nat) (l : List α), dropN n l = l.drop n
  | 0, _ => rfl
  | _ + 1, [] => rfl
  | n + 1, _ :: l => dropN_eq n l
/-- the first n, all known, each of one cell -/
def takeN : Nat → List V → Option (List V)
  | 0, _ => some []
  | _ + 1, [] => none
  | n + 1, v :: l => bif v.one then (match takeN n l with | some r => some (v :: r) | none => none) else none
theorem takeN_spec : ∀ {n : Nat} {l r : List V}, takeN n l = some r → r.length = n ∧ (∀ v ∈ r, v.one = true) ∧ ∀ (i : Nat) (v : V), r[i]? = some v → l[i]? = some v
  | 0, l, r, h => by simp [takeN] at h; subst h; simp
  | n + 1, [], r, h => by simp [takeN] at h
  | n + 1, v :: l, r, h => by
    simp only [takeN] at h
    cases hv : v.one <;> simp [hv] at h
    split at h
    · rename_i s hs
      simp at h; subst h
      obtain ⟨h1, h2, h3⟩ := takeN_spec hs
      refine ⟨by simp [h1], ?_, ?_⟩
      · intro x hx; rcases List.mem_cons.1 hx with rfl | hx
        · exact hv
        · exact h2 x hx
      · intro i x hx
        cases i with
        | zero => simpa using hx
        | succ i => simp at hx ⊢; exact h3 i x hx
    · simp at h

def rdCells (cs : List V) (off size : Nat) (agg : Bool) : Option V :=
  bif agg then (match takeN size (dropN off cs) with | some r => some (.agg r) | none => none)
  else match dropN off cs with
    | v :: _ => bif v.one then some v else none
    | [] => none
def rd (h : Tr Ob) (id off size : Nat) (agg : Bool) : Option V :=
  match h.get id with
  | some (.cells _ cs _) => rdCells cs off size agg
  | _ => none

theorem V.one_ne {v : V} (h : v.one = true) : v ≠ .unk := by intro e; subst e; simp [V.one] at h
theorem V.one_cells {v : V} (h : v.one = true) (ρ : Env) : (v.den ρ).cells = #[v.den ρ] := by
  cases v <;> simp [V.one] at h <;> try rfl
  rename_i n; simp only [V.den]; cases ρ.v n <;> rfl

section
variable {P : Program} {ρ : Env} {st : St} {w : World}

theorem cell_of (hR : Real ρ st w) {id : Nat} {rw : Bool} {cs : List V} {sz : Option Tm} (ho : st.h.get id = some (.cells rw cs sz)) {i : Nat} {v : V} (hi : cs[i]? = some v) (hv : v ≠ .unk) :
    w.cell? ⟨ρ.b id, ρ.o id + i, none⟩ = some (v.den ρ) ∧ v.wf st.nx := by
  obtain ⟨h1, h2, obj, h3, h4⟩ := hR.obj id _ ho
  refine ⟨?_, (V.wfL_iff _ _).1 h2.1 v (mem_of_getElem? hi)⟩
  cases obj <;> simp only [ObRel] at h4
  simp only [World.cell?, h3]
  exact h4.1 i v hi hv

theorem addr_add (b o i : Nat) : (Addr.add ⟨b, o, none⟩ i) = ⟨b, o + i, none⟩ := by
  unfold Addr.add; split
  · subst_vars; rfl
  · rfl
theorem run_load_cell {a : Addr} {x : Value} (h : w.cell? a = some x) : (load a).run P w = .ok x w := by simp [h]

theorem run_loadCells_of {b o : Nat} : ∀ (n i : Nat) (vs : List Value) (acc : Array Value), vs.length = n → (∀ j x, vs[j]? = some x → w.cell? ⟨b, o + i + j, none⟩ = some x) →
    (loadCellsFrom ⟨b, o, none⟩ i n acc).run P w = .ok (acc ++ vs.toArray) w
  | 0, i, vs, acc, hl, h => by
    have : vs = [] := List.length_eq_zero_iff.1 hl
    subst this; simp [loadCellsFrom]
  | n + 1, i, [], acc, hl, h => by simp at hl
  | n + 1, i, x :: vs, acc, hl, h => by
    have h0 := h 0 x rfl
    have ha : (Addr.add ⟨b, o, none⟩ i) = ⟨b, o + i, none⟩ := addr_add b o i
    simp only [loadCellsFrom, ha]
    simp only [Nat.add_zero] at h0
    rw [Sem.run_bind, run_load_cell h0, Result.andThen_ok]
    rw [run_loadCells_of n (i + 1) vs (acc.push x) (by simpa using hl) (fun j y hj => by
      have := h (j + 1) y (by simpa using hj)
      rw [show o + (i + 1) + j = o + i + (j + 1) by omega]; exact this)]
    simp

/-- reading a variable -/
theorem run_rd (hR : Real ρ st w) {id off size : Nat} {agg : Bool} {v : V} (h : rd st.h id off size agg = some v) :
    v.wf st.nx ∧ (if agg = true then ((loadCells ⟨ρ.b id, ρ.o id + off, none⟩ size).run P w).andThen (fun cs w => .ok (.agg cs) w) else (load ⟨ρ.b id, ρ.o id + off, none⟩).run P w) = .ok (v.den ρ) w := by
  unfold rd at h
  split at h
  · rename_i rw cs sz ho
    unfold rdCells at h
    simp only [dropN_eq] at h
    cases agg
    · simp only [cond_false] at h
      split at h
      · rename_i x l hx
        cases hone : x.one <;> simp [hone] at h
        subst h
        have hi : cs[off]? = some x := by
          have := congrArg (fun l => l[0]?) hx
          simpa using this
        obtain ⟨h1, h2⟩ := cell_of hR ho hi (V.one_ne hone)
        exact ⟨h2, by simp [h1]⟩
      · simp at h
    · simp only [cond_true] at h
      split at h
      · rename_i r hr
        simp at h; subst h
        obtain ⟨h1, h2, h3⟩ := takeN_spec hr
        have hc : ∀ j x, r[j]? = some x → w.cell? ⟨ρ.b id, ρ.o id + off + j, none⟩ = some (x.den ρ) ∧ x.wf st.nx := fun j x hj => by
          have := h3 j x hj
          rw [List.getElem?_drop] at this
          rw [Nat.add_assoc]
          exact cell_of hR ho this (V.one_ne (h2 x (mem_of_getElem? hj)))
        refine ⟨(V.wfL_iff _ _).2 fun x hx => ?_, ?_⟩
        · obtain ⟨j, hj⟩ := List.getElem?_of_mem hx
          exact (hc j x hj).2
        · have := run_loadCells_of (P := P) (w := w) (b := ρ.b id) (o := ρ.o id + off) size 0 (V.denL ρ r) #[] (by rw [V.denL_eq]; simpa using h1) (fun j x hj => by
            rw [V.denL_eq, List.getElem?_map, Option.map_eq_some_iff] at hj
            obtain ⟨y, hy, rfl⟩ := hj
            exact (hc j y hy).1)
          simp only [if_true, loadCells]
          rw [this]; simp [V.den]
      · simp at h
  · simp at h

/-! ## Memory: writing -/
def putN : List V → Nat → List V → Option (List V)
  | cs, _, [] => some cs
  | [], _, _ :: _ => none
  | _ :: cs, 0, v :: l => match putN cs 0 l with | some r => some (v :: r) | none => none
  | c :: cs, k + 1, v :: l => match putN cs k (v :: l) with | some r => some (c :: r) | none => none
theorem putN_spec : ∀ {cs : List V} {k : Nat} {l r : List V}, putN cs k l = some r →
    r.length = cs.length ∧ (l ≠ [] → k + l.length ≤ cs.length) ∧ ∀ i, r[i]? = if k ≤ i ∧ i < k + l.length then l[i - k]? else cs[i]?
  | cs, k, [], r, h => by
    have : putN cs k [] = some cs := by cases cs <;> rfl
    rw [this] at h; simp at h; subst h
    refine ⟨rfl, by simp, fun i => ?_⟩
    rw [if_neg]; simp only [List.length_nil]; omega
  | [], k, v :: l, r, h => by simp [putN] at h
  | c :: cs, 0, v :: l, r, h => by
    simp only [putN] at h
    split at h
    · rename_i s hs
      simp at h; subst h
      obtain ⟨h1, h2, h3⟩ := putN_spec hs
      refine ⟨by simp [h1], fun _ => ?_, fun i => ?_⟩
      · by_cases hl : l = []
        · subst hl; simp
        · have := h2 hl; simp; omega
      · cases i with
        | zero => simp
        | succ i =>
          simp only [List.getElem?_cons_succ, h3 i, Nat.zero_le, true_and, Nat.zero_add, Nat.sub_zero, List.length_cons]
          by_cases hi : i < l.length
          · rw [if_pos hi, if_pos (by omega)]
          · rw [if_neg hi, if_neg (by omega)]
    · simp at h
  | c :: cs, k + 1, v :: l, r, h => by
    simp only [putN] at h
    split at h
    · rename_i s hs
      simp at h; subst h
      obtain ⟨h1, h2, h3⟩ := putN_spec hs
      refine ⟨by simp [h1], fun _ => ?_, fun i => ?_⟩
      · have := h2 (by simp); simp at this ⊢; omega
      · cases i with
        | zero => simp
        | succ i =>
          simp only [List.getElem?_cons_succ, h3 i]
          by_cases hi : k ≤ i ∧ i < k + (v :: l).length
          · rw [if_pos hi, if_pos (by omega), show i + 1 - (k + 1) = i - k by omega]
          · rw [if_neg hi, if_neg (by omega)]
    · simp at h

def allOne : List V → Bool
  | [] => true
  | v :: l => v.one && allOne l
theorem allOne_iff : ∀ {l : List V}, allOne l = true ↔ ∀ v ∈ l, v.one = true
  | [] => by simp [allOne]
  | v :: l => by simp [allOne, allOne_iff (l := l)]
/-- the cells of a value -/
def V.cellsL : V → Option (List V)
  | .agg l => bif allOne l then some l else none
  | .tuple _ | .unk => none
  | v => some [v]
theorem V.cellsL_spec {v : V} {l : List V} (h : v.cellsL = some l) : (∀ x ∈ l, x.one = true) ∧ (∀ n, v.wf n → V.wfL n l) ∧ ∀ ρ, (v.den ρ).cells = (V.denL ρ l).toArray := by
  cases v
  case agg r =>
    simp only [V.cellsL] at h
    cases hr : allOne r <;> simp [hr] at h
    subst h
    exact ⟨allOne_iff.1 hr, fun n hw => hw, fun ρ => by simp [V.den, Value.cells]⟩
  all_goals simp only [V.cellsL, Option.some.injEq, reduceCtorEq] at h
  all_goals subst h
  all_goals refine ⟨by simp [V.one], fun n hw => ⟨hw, trivial⟩, fun ρ => ?_⟩
  all_goals simp only [V.denL]
  all_goals exact V.one_cells rfl ρ

def World.setRow (w : World) (b : Nat) (obj : Obj) : World := { w with heap := w.heap.setIfInBounds b obj }
theorem setRow_setRow (w : World) (b : Nat) (x y : Obj) : World.setRow (World.setRow w b x) b y = World.setRow w b y := by
  simp [World.setRow]
theorem setCell_row {w : World} {b o : Nat} {arr : Array Value} {ty : TypeId} {fz : Nat × Nat} {v : Value} (h : w.heap[b]? = some (.cells arr ty fz)) :
    w.setCell ⟨b, o, none⟩ v = World.setRow w b (.cells (arr.setIfInBounds o v) ty fz) := by
  have hlt := lt_of_some h
  simp only [World.setCell, World.setRow]
  congr 1
  apply Array.ext
  · simp
  · intro i h1 h2
    rw [Array.getElem_modify]
    by_cases hi : b = i
    · subst hi
      have hx : w.heap[b] = .cells arr ty fz := by rw [Array.getElem?_eq_getElem hlt] at h; simpa using h
      simp [hx]
    · simp only [hi, if_false]
      rw [Array.getElem_setIfInBounds (by simpa using h2), if_neg hi]

theorem setRow_self {w : World} {b : Nat} {obj : Obj} (h : w.heap[b]? = some obj) : World.setRow w b obj = w := by
  have hlt := lt_of_some h
  have : w.heap.setIfInBounds b obj = w.heap := by
    apply Array.ext
    · simp
    · intro i h1 h2
      rw [Array.getElem_setIfInBounds h2]
      split
      · rename_i e; subst e; rw [Array.getElem?_eq_getElem hlt] at h; simpa using h.symm
      · rfl
  simp only [World.setRow, this]
/-- storing cells one after another -/
theorem run_storeCells_of {b o : Nat} {ty : TypeId} : ∀ (vs : List Value) (i : Nat) (arr : Array Value) (w : World), w.heap[b]? = some (.cells arr ty (0, 0)) → (∀ v ∈ vs, Value.oneCell' v = true) →
    o + i + vs.length ≤ arr.size → ∃ arr', arr'.size = arr.size ∧ (∀ j, arr'[j]? = if o + i ≤ j ∧ j < o + i + vs.length then vs[j - (o + i)]? else arr[j]?) ∧
      (storeCells ⟨b, o, none⟩ vs i).run P w = .ok () (World.setRow w b (.cells arr' ty (0, 0)))
  | [], i, arr, w, h, _, _ => by
    refine ⟨arr, rfl, fun j => ?_, ?_⟩
    · rw [if_neg]; simp only [List.length_nil]; omega
    · rw [setRow_self h]; simp [storeCells]
  | v :: vs, i, arr, w, h, hone, hsz => by
    have ha : (Addr.add ⟨b, o, none⟩ i) = ⟨b, o + i, none⟩ := addr_add b o i
    simp only [List.length_cons] at hsz
    have hlt := lt_of_some h
    have hcell : w.cell? ⟨b, o + i, none⟩ = some arr[o + i] := by simp [World.cell?, h, Array.getElem?_eq_getElem (show o + i < arr.size by omega)]
    have hfz : w.frozen? ⟨b, o + i, none⟩ = false := by simp [World.frozen?, h]
    have hs : (store ⟨b, o + i, none⟩ v).run P w = .ok () (World.setRow w b (.cells (arr.setIfInBounds (o + i) v) ty (0, 0))) := by
      rw [run_store P w _ v .plain (hone v (by simp)), hcell, hfz]
      simp only [Bool.false_eq_true, if_false]
      rw [setCell_row h]
    have h' : (World.setRow w b (.cells (arr.setIfInBounds (o + i) v) ty (0, 0))).heap[b]? = some (.cells (arr.setIfInBounds (o + i) v) ty (0, 0)) := by simp [World.setRow, hlt]
    obtain ⟨arr', g1, g2, g3⟩ := run_storeCells_of (b := b) (o := o) vs (i + 1) (arr.setIfInBounds (o + i) v) _ h' (fun x hx => hone x (List.mem_cons_of_mem _ hx)) (by rw [Array.size_setIfInBounds]; omega)
    refine ⟨arr', by simpa using g1, fun j => ?_, ?_⟩
    · rw [g2 j]
      simp only [List.length_cons]
      by_cases hj : o + i = j
      · subst hj
        rw [if_neg (by omega), if_pos (by omega)]
        simp [show o + i < arr.size by omega]
      · rw [Array.getElem?_setIfInBounds_ne hj]
        by_cases hk : o + (i + 1) ≤ j ∧ j < o + (i + 1) + vs.length
        · rw [if_pos hk, if_pos (by omega), show j - (o + i) = (j - (o + (i + 1))) + 1 by omega]; simp
        · rw [if_neg hk, if_neg (by omega)]
    · simp only [storeCells, ha]
      rw [Sem.run_bind, hs, Result.andThen_ok, g3, setRow_setRow]

theorem V.one_oneCell {v : V} (h : v.one = true) (ρ : Env) : (v.den ρ).oneCell' = true := by
  cases v <;> simp [V.one] at h <;> try rfl
  rename_i n; simp only [V.den]; cases ρ.v n <;> rfl

def wr (h : Tr Ob) (id off : Nat) (l : List V) : Option (Tr Ob) :=
  match h.get id with
  | some (.cells true cs sz) => match putN cs off l with | some r => some (h.set id (.cells true r sz)) | none => none
  | _ => none

theorem run_wr (hR : Real ρ st w) {id off : Nat} {l : List V} {h' : Tr Ob} (h : wr st.h id off l = some h') (hone : ∀ v ∈ l, v.one = true) (hwf : V.wfL st.nx l) :
    ∃ w', Step ρ st w ρ { st with h := h' } w' ∧ (storeCells ⟨ρ.b id, ρ.o id + off, none⟩ (V.denL ρ l)).run P w = .ok () w' := by
  unfold wr at h
  split at h
  · rename_i cs sz ho
    split at h
    · rename_i r hr
      simp at h; subst h
      obtain ⟨h1, h2, h3⟩ := putN_spec hr
      obtain ⟨g1, g2, obj, g3, g4⟩ := hR.obj id _ ho
      cases obj <;> simp only [ObRel] at g4
      rename_i arr ty fz
      have hfz := g4.2.2.2 trivial
      subst hfz
      by_cases hl : l = []
      · subst hl
        have hcs : r = cs := by
          have : putN cs off [] = some cs := by cases cs <;> rfl
          rw [this] at hr; simpa using hr.symm
        subst hcs
        refine ⟨{ w with heap := w.heap.setIfInBounds (ρ.b id) (.cells arr ty (0, 0)) }, Step.write hR ho rfl (show ObRel ρ id (.cells true r sz) (.cells arr ty (0, 0)) by simpa [ObRel] using g4) g2, ?_⟩
        have := setRow_self g3
        simp only [World.setRow] at this
        rw [this]; simp [V.denL, storeCells]
      · have hle := h2 hl
        have hsz : ρ.o id + off + l.length ≤ arr.size := by have := g4.2.1; omega
        obtain ⟨arr', a1, a2, a3⟩ := run_storeCells_of (P := P) (b := ρ.b id) (o := ρ.o id + off) (ty := ty) (V.denL ρ l) 0 arr w g3 (fun v hv => by
          rw [V.denL_eq, List.mem_map] at hv
          obtain ⟨x, hx, rfl⟩ := hv
          exact V.one_oneCell (hone x hx) ρ) (by rw [V.denL_eq]; simpa using hsz)
        refine ⟨_, Step.write hR ho rfl (o' := .cells true r sz) (obj := .cells arr' ty (0, 0)) ⟨?_, by have := g4.2.1; omega, ?_, fun _ => rfl⟩ ⟨?_, g2.2⟩, a3⟩
        · intro i v hi hv
          have hi' := h3 i
          rw [hi] at hi'
          have e := a2 (ρ.o id + i)
          rw [e]
          have hlen : (V.denL ρ l).length = l.length := by rw [V.denL_eq]; simp
          rw [hlen]
          by_cases hk : off ≤ i ∧ i < off + l.length
          · rw [if_pos hk] at hi'
            rw [if_pos (by omega), V.denL_eq, List.getElem?_map, show ρ.o id + i - (ρ.o id + off + 0) = i - off by omega, ← hi']; rfl
          · rw [if_neg hk] at hi'
            rw [if_neg (by omega)]
            exact g4.1 i v hi'.symm hv
        · intro t ht; rw [a1]; exact g4.2.2.1 t ht
        · refine (V.wfL_iff _ _).2 fun x hx => ?_
          obtain ⟨i, hi⟩ := List.getElem?_of_mem hx
          have hi' := h3 i
          rw [hi] at hi'
          split at hi'
          · exact (V.wfL_iff _ _).1 hwf x (mem_of_getElem? hi'.symm)
          · exact (V.wfL_iff _ _).1 g2.1 x (mem_of_getElem? hi'.symm)
    · simp at h
  · simp at h
end
end Go.Sx
