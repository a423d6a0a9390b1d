/- A part of a symbolic evaluator over the model and of the proof that it is right: 'SxI'. It holds for every program; no condition. -/
import Derived.Test.YtaebmdinecilbaaGreatDoorSxH
namespace Go.Sx

section
variable {P : Program} {ρ : Env} {st : St} {w : World}

/-! ## Indices -/
/-- when a number is not known: ask whether it is the least that it can be -/
def askNum (fc : Facts) (t : Tm) (n : Nat) : OpR :=
  match rng fc t with
  | some (p, q) => bif Z.le q (p + 40) then .ask (.eq t (.lit p)) else .bad n
  | none => .bad n
theorem askNum_v {s : Sem Value} {t : Tm} (ht : t.wf st.nx) (n : Nat) : VOk P ρ st w s (askNum st.fc t n) := by
  unfold askNum; split
  · cases Z.le _ _
    · trivial
    · exact ⟨ht, trivial⟩
  · trivial

def natOf : Int → Option Nat
  | .ofNat n => some n
  | .negSucc _ => none
theorem natOf_eq {z : Int} {n : Nat} (h : natOf z = some n) : z = (n : Int) := by cases z <;> simp [natOf] at h; subst h; rfl

def doIndexAddr (C : Ctx) (st : St) (ty : Nat) (x ix : V) : OpR :=
  match ix with
  | .int _ tm => match num st.fc tm with
    | some z => match natOf z with
      | some n => match C.ty.get ty with
        | some i => match i.el with
          | some y => match i.und, x with
            | .array _ _, .ptr id off => bif Nat.blt n i.len then .val (.ptr id (Nat.add off (Nat.mul n y.size))) st else .bad 21
            | .slice _, .slice id off len _ => bif Nat.blt n len then .val (.ptr id (Nat.add off (Nat.mul n y.size))) st else .bad 22
            | _, _ => .bad 23
          | none => .bad 24
        | none => .bad 25
      | none => .bad 26
    | none => askNum st.fc tm 27
  | _ => .bad 28

theorem doIndexAddr_ok {C : Ctx} (hC : C.Ok P) (hR : Real ρ st w) (ty : Nat) {x ix : V} (hx : x.wf st.nx) (hix : ix.wf st.nx) :
    VOk P ρ st w (Instr.indexAt ty (x.den ρ) (ix.den ρ)) (doIndexAddr C st ty x ix) := by
  unfold doIndexAddr
  split
  · rename_i k tm
    split
    · rename_i z hz
      have hz' := num_sound hR.fc hz
      split
      · rename_i n hn
        have hzn := natOf_eq hn
        split
        · rename_i i hi
          have hT := hC.get hi
          split
          · rename_i y hy
            obtain ⟨e, he, hf⟩ := hT.el y hy
            split
            · rename_i n' e' id off hu
              cases hb : Nat.blt n i.len
              · trivial
              · have hlt : n < i.len := by simpa [Nat.blt_eq] using hb
                have hu' : i.und = .array i.len e := by
                  rcases he with h | h
                  · rw [hu] at h; simp at h
                  · exact h
                refine VOk.same hR hx ?_
                simp only [Instr.indexAt, V.den, asIntOf, Sem.run_bind, Result.andThen_ok, hT.run_und, hu', Instr.sureAddr, pure_bind]
                rw [hz', hzn]
                simp only [Int.natCast_nonneg, true_and, Int.ofNat_lt, hlt, if_true, Sem.run_bind, run_size_fi hf, Result.andThen_ok, Int.toNat_natCast, addr_add, Sem.run_pure]
                rw [Nat.add_assoc]; rfl
            · rename_i e' id off len cap hu
              cases hb : Nat.blt n len
              · trivial
              · have hlt : n < len := by simpa [Nat.blt_eq] using hb
                have hu' : i.und = .slice e := by
                  rcases he with h | h
                  · exact h
                  · rw [hu] at h; simp at h
                refine VOk.same hR hx.1 ?_
                simp only [Instr.indexAt, V.den, asIntOf, Sem.run_bind, Result.andThen_ok, hT.run_und, hu', pure_bind]
                rw [hz', hzn]
                simp only [Int.natCast_nonneg, true_and, Int.ofNat_lt, hlt, if_true, Sem.run_bind, run_size_fi hf, Result.andThen_ok, Int.toNat_natCast, addr_add, Sem.run_pure]
                rw [Nat.add_assoc]; rfl
            · trivial
          · trivial
        · trivial
      · trivial
    · exact askNum_v hix _
  · trivial

/-- an element of a list of whole numbers at an index that need not be known -/
def selK : List V → Option (IntKind)
  | .int k _ :: _ => some k
  | _ => none
def sel (fc : Facts) (k : IntKind) (tm : Tm) : List V → Nat → Option Tm
  | [], _ => none
  | [.int k' t], _ => bif kBeq k k' then some t else none
  | .int k' t :: l, n => bif kBeq k k' then (match sel fc k tm l (n + 1) with | some r => some (mkIte fc (mkEq fc tm (.lit n)) t r) | none => none) else none
  | _ :: _, _ => none

def doIndex (C : Ctx) (st : St) (ty : Nat) (x ix : V) : OpR :=
  match ix with
  | .int _ tm => match C.ty.get ty with
    | some i => match i.und, x with
      | .array _ _, .agg l => match i.el with
        | some y => match num st.fc tm with
          | some z => match natOf z with
            | some n => bif Nat.blt n i.len then (match partL l y (Nat.mul n y.size) with | some v => .val v st | none => .bad 29) else .bad 30
            | none => .bad 31
          | none => match selK l, y.agg, Nat.beq y.size 1, Nat.beq l.length i.len, rng st.fc tm with
            | some k, false, true, true, some (p, q) => bif Z.le 0 p && Z.le q (Int.ofNat i.len - 1) then (match sel st.fc k tm l 0 with | some t => .val (.int k t) st | none => .bad 32) else askNum st.fc tm 33
            | _, _, _, _, _ => askNum st.fc tm 34
        | none => .bad 35
      | .string, .str s => match num st.fc tm with
        | some z => match natOf z with
          | some n => match s[n]? with
            | some c => .val (.int .u8 (.lit (Int.ofNat c.toNat))) st
            | none => .bad 36
          | none => .bad 37
        | none => askNum st.fc tm 38
      | _, _ => .bad 39
    | none => .bad 40
  | _ => .bad 41

theorem sel_spec {fc : Facts} (hf : FactsOk ρ fc) {k : IntKind} {tm : Tm} : ∀ {l : List V} {n : Nat} {r : Tm}, sel fc k tm l n = some r → ∀ m : Nat, tm.den ρ = (n + m : Nat) → m < l.length →
    ∃ t, l[m]? = some (.int k t) ∧ r.den ρ = t.den ρ
  | [], n, r, h, m, hm, hl => by simp [sel] at h
  | [v], n, r, h, m, hm, hl => by
    simp at hl; subst hl
    cases v <;> simp only [sel] at h <;> try simp at h
    rename_i k' t
    cases hk : kBeq k k' <;> simp [hk] at h
    subst h; rw [kBeq_eq hk]
    exact ⟨t, rfl, rfl⟩
  | v :: v' :: l, n, r, h, m, hm, hl => by
    cases v <;> simp only [sel] at h <;> try simp at h
    rename_i k' t
    cases hk : kBeq k k' <;> simp [hk] at h
    split at h
    · rename_i s hs
      simp at h; subst h
      rw [mkIte_den hf, mkEq_den hf]
      simp only [Tm.den, hm]
      cases m with
      | zero => rw [kBeq_eq hk]; exact ⟨t, rfl, by simp [b2i]⟩
      | succ m =>
        obtain ⟨u, hu, he⟩ := sel_spec hf hs m (by rw [hm]; congr 1; omega) (by simp at hl ⊢; omega)
        refine ⟨u, by simpa using hu, ?_⟩
        have : ¬ ((n : Int) + (m + 1 : Nat)) = n := by omega
        have h2 : b2i (decide (((n + (m + 1) : Nat) : Int) = (n : Int))) = 0 := by
          rw [decide_eq_false (by omega)]; rfl
        rw [h2, if_pos rfl, he]
    · simp at h
theorem sel_wf {fc : Facts} {k : IntKind} {tm : Tm} {N : Nat} (ht : tm.wf N) : ∀ {l : List V} {n : Nat} {r : Tm}, sel fc k tm l n = some r → V.wfL N l → r.wf N
  | [], n, r, h, hl => by simp [sel] at h
  | [v], n, r, h, hl => by
    cases v <;> simp only [sel] at h <;> try simp at h
    rename_i k' t
    cases hk : kBeq k k' <;> simp [hk] at h
    subst h; exact hl.1
  | v :: v' :: l, n, r, h, hl => by
    cases v <;> simp only [sel] at h <;> try simp at h
    rename_i k' t
    cases hk : kBeq k k' <;> simp [hk] at h
    split at h
    · rename_i s hs
      simp at h; subst h
      exact mkIte_wf (mkEq_wf ht trivial) hl.1 (sel_wf ht hs hl.2)
    · simp at h

theorem doIndex_ok {C : Ctx} (hC : C.Ok P) (hR : Real ρ st w) (ty : Nat) {x ix : V} (hx : x.wf st.nx) (hix : ix.wf st.nx) :
    VOk P ρ st w (Instr.index ty (x.den ρ) (ix.den ρ)) (doIndex C st ty x ix) := by
  unfold doIndex
  split
  · rename_i k tm
    split
    · rename_i i hi
      have hT := hC.get hi
      split
      · rename_i n' e' l hu
        split
        · rename_i y hy
          obtain ⟨e, he, hf⟩ := hT.el y hy
          have hu' : i.und = .array i.len e := by
            rcases he with h | h
            · rw [hu] at h; simp at h
            · exact h
          split
          · rename_i z hz
            have hz' := num_sound hR.fc hz
            split
            · rename_i n hn
              have hzn := natOf_eq hn
              cases hb : Nat.blt n i.len
              · trivial
              · have hlt : n < i.len := by simpa [Nat.blt_eq] using hb
                simp only [cond_true]
                split
                · rename_i v hv
                  obtain ⟨g1, g2⟩ := partL_spec (P := P) (ρ := ρ) (w := w) hv hx hf
                  refine VOk.same hR g1 ?_
                  simp only [Instr.index, V.den, asIntOf, Sem.run_bind, Sem.run_pure, Result.andThen_ok, hT.run_und, hu']
                  rw [hz', hzn]
                  simp only [Int.natCast_nonneg, true_and, Int.ofNat_lt, hlt, if_true, Sem.run_bind, run_size_fi hf, Result.andThen_ok, Int.toNat_natCast]
                  exact g2
                · trivial
            · trivial
          · split
            · rename_i kk p q hk hagg hsz hlen hrg
              cases hb : (Z.le 0 p && Z.le q (Int.ofNat i.len - 1))
              · exact askNum_v hix _
              · simp only [cond_true]
                simp [Z.le_iff] at hb
                have hr := rng_sound hR.fc tm
                rw [hrg] at hr
                simp only [InR] at hr
                split
                · rename_i t ht
                  have hlen' := Nat.eq_of_beq_eq_true hlen
                  obtain ⟨m, hm⟩ : ∃ m : Nat, tm.den ρ = (m : Int) := ⟨(tm.den ρ).toNat, by omega⟩
                  have hml : m < i.len := by omega
                  obtain ⟨u, hu1, hu2⟩ := sel_spec hR.fc ht m (by simpa using hm) (by omega)
                  refine VOk.same hR (v := .int kk t) (sel_wf hix ht hx) ?_
                  simp only [Instr.index, V.den, asIntOf, Sem.run_bind, Sem.run_pure, Result.andThen_ok, hT.run_und, hu']
                  rw [hm]
                  simp only [Int.natCast_nonneg, true_and, Int.ofNat_lt, hml, if_true, Sem.run_bind, run_size_fi hf, Result.andThen_ok, Int.toNat_natCast, Nat.eq_of_beq_eq_true hsz, Nat.mul_one]
                  simp only [part, Sem.run_bind, run_agg_fi hf, Result.andThen_ok, hagg, Bool.false_eq_true, if_false]
                  have : (V.denL ρ l).toArray[m]? = some (.int kk (u.den ρ)) := by simp [V.denL_eq, hu1, V.den]
                  rw [this, hu2]; rfl
                · trivial
            · exact askNum_v hix _
        · trivial
      · rename_i s hu
        split
        · rename_i z hz
          have hz' := num_sound hR.fc hz
          split
          · rename_i n hn
            have hzn := natOf_eq hn
            split
            · rename_i c hc
              refine VOk.same hR trivial ?_
              simp only [Instr.index, V.den, asIntOf, Sem.run_bind, Sem.run_pure, Result.andThen_ok, hT.run_und, hu]
              rw [hz', hzn]
              simp only [Int.natCast_nonneg, if_true, Int.toNat_natCast]
              have : (ByteArray.mk s.toArray)[n]? = some c := by
                have hl := List.getElem?_eq_some_iff.1 hc
                obtain ⟨h1, h2⟩ := hl
                rw [getElem?_pos (ByteArray.mk s.toArray) n (by simpa [ByteArray.size] using h1)]
                congr 1
              rw [this]; rfl
            · trivial
          · trivial
        · exact askNum_v hix _
      · trivial
    · trivial
  · trivial

/-! ## Structs, arrays and slices made -/
def fillL (place : Nat → Option (Nat × Nat)) : List V → List (Nat × V) → Option (List V)
  | cs, [] => some cs
  | cs, (i, v) :: rest => match place i, v.cellsL with
    | some (off, size), some l => bif Nat.beq l.length size then (match putN cs off l with | some r => bif Nat.ble (Nat.add off l.length) cs.length then fillL place r rest else none | none => none) else none
    | _, _ => none
theorem foldl_set {off : Nat} : ∀ (l : List Value) (k : Nat) (cs : Array Value),
    ((l.zipIdx k).toArray.foldl (fun cs (x : Value × Nat) => cs.setIfInBounds (off + x.2) x.1) cs).size = cs.size ∧ ∀ i,
    ((l.zipIdx k).toArray.foldl (fun cs (x : Value × Nat) => cs.setIfInBounds (off + x.2) x.1) cs)[i]? = if off + k ≤ i ∧ i < off + k + l.length ∧ i < cs.size then l[i - (off + k)]? else cs[i]?
  | [], k, cs => by
    refine ⟨rfl, fun i => ?_⟩
    rw [if_neg]; · rfl
    · simp only [List.length_nil]; omega
  | v :: l, k, cs => by
    have ih := foldl_set (off := off) l (k + 1) (cs.setIfInBounds (off + k) v)
    simp only [List.zipIdx_cons, List.foldl_toArray, List.foldl_cons] at ih ⊢
    refine ⟨by simpa using ih.1, fun i => ?_⟩
    rw [ih.2 i]
    simp only [List.length_cons, Array.size_setIfInBounds]
    by_cases hk : off + k = i
    · subst hk
      rw [if_neg (by omega)]
      by_cases hs : off + k < cs.size
      · rw [if_pos (by omega)]; simp [hs]
      · rw [if_neg (by omega)]
        rw [Array.getElem?_eq_none (by simpa using hs), Array.getElem?_eq_none (by omega)]
    · rw [Array.getElem?_setIfInBounds_ne hk]
      by_cases hc : off + (k + 1) ≤ i ∧ i < off + (k + 1) + l.length ∧ i < cs.size
      · rw [if_pos hc, if_pos (by omega), show i - (off + k) = (i - (off + (k + 1))) + 1 by omega]; simp
      · rw [if_neg hc, if_neg (by omega)]
theorem fillL_spec {place : Nat → Option (Nat × Nat)} {n : Nat} : ∀ {rest : List (Nat × V)} {cs r : List V}, fillL place cs rest = some r → V.wfL n cs → (∀ x ∈ rest, x.2.wf n) →
    V.wfL n r ∧ Instr.fill place (V.denL ρ cs).toArray (rest.map fun x => (x.1, x.2.den ρ)) = some (V.denL ρ r).toArray
  | [], cs, r, h, hc, _ => by simp [fillL] at h; subst h; exact ⟨hc, rfl⟩
  | (i, v) :: rest, cs, r, h, hc, hr => by
    simp only [fillL] at h
    split at h
    · rename_i off size l hp hl
      cases hb : Nat.beq l.length size <;> simp [hb] at h
      have hlen := Nat.eq_of_beq_eq_true hb
      split at h
      · rename_i s hs
        cases hle : Nat.ble (off + l.length) cs.length <;> simp [hle] at h
        have hle' := Nat.le_of_ble_eq_true hle
        obtain ⟨h1, h2, h3⟩ := putN_spec hs
        obtain ⟨c1, c2, c3⟩ := V.cellsL_spec hl
        have hvw := c2 n (hr (i, v) (by simp))
        have hsw : V.wfL n s := (V.wfL_iff _ _).2 fun x hx => by
          obtain ⟨j, hj⟩ := List.getElem?_of_mem hx
          rw [h3 j] at hj
          split at hj
          · exact (V.wfL_iff _ _).1 hvw x (mem_of_getElem? hj)
          · exact (V.wfL_iff _ _).1 hc x (mem_of_getElem? hj)
        obtain ⟨g1, g2⟩ := fillL_spec h hsw (fun x hx => hr x (List.mem_cons_of_mem _ hx))
        refine ⟨g1, ?_⟩
        simp only [List.map_cons, Instr.fill, hp, c3 ρ]
        have e1 : (V.denL ρ l).toArray.size = size := by simp [V.denL_eq, hlen]
        have e2 : (V.denL ρ cs).toArray.size = cs.length := by simp [V.denL_eq]
        rw [if_neg (by simp [e1, e2]; omega)]
        rw [← g2]
        congr 1
        have hz : ((V.denL ρ l).toArray.zipIdx) = ((V.denL ρ l).zipIdx 0).toArray := by simp
        rw [hz]
        obtain ⟨f1, f2⟩ := foldl_set (off := off) (V.denL ρ l) 0 (V.denL ρ cs).toArray
        apply Array.ext_getElem?
        intro j
        have := f2 j
        simp only [Nat.add_zero, e2] at this
        rw [this]
        have h3j := h3 j
        have el : (V.denL ρ l).length = l.length := by simp [V.denL_eq]
        rw [el]
        by_cases hj : off ≤ j ∧ j < off + l.length
        · rw [if_pos (by omega)]
          rw [if_pos hj] at h3j
          simp [V.denL_eq, h3j]
        · rw [if_neg (by omega)]
          rw [if_neg hj] at h3j
          simp [V.denL_eq, h3j]
      · simp at h
    · simp at h

/-- a part of a list of operands with places -/
def opnds (f : Operand → Option V) : List (Nat × Operand) → Option (List (Nat × V))
  | [] => some []
  | (i, x) :: l => match f x, opnds f l with
    | some v, some r => some ((i, v) :: r)
    | _, _ => none

def doBuild (C : Ctx) (st : St) (ty : Nat) (parts : List (Nat × V)) : OpR :=
  match C.ty.get ty with
  | some i => match i.zero with
    | some (.agg zc) => match i.und with
      | .struct _ => match fillL (fun k => match nthF i.flds k with | some y => some (y.off, y.size) | none => none) zc parts with
        | some r => .val (.agg r) st
        | none => .bad 42
      | .array _ _ => match i.el with
        | some y => match fillL (fun k => some (Nat.mul k y.size, y.size)) zc parts with
          | some r => .val (.agg r) st
          | none => .bad 43
        | none => .bad 44
      | _ => .bad 45
    | _ => .bad 46
  | none => .bad 47

theorem fill_congr {p q : Nat → Option (Nat × Nat)} : ∀ (l : List (Nat × Value)) (cs r : Array Value), (∀ k x, p k = some x → q k = some x) → Instr.fill p cs l = some r → Instr.fill q cs l = some r
  | [], cs, r, h, hr => by simpa [Instr.fill] using hr
  | (i, v) :: l, cs, r, h, hr => by
    simp only [Instr.fill] at hr ⊢
    split at hr
    · simp at hr
    · rename_i off size hp
      rw [h i _ hp]
      dsimp only at hr ⊢
      split at hr
      · simp at hr
      · rename_i hc
        rw [if_neg hc]
        exact fill_congr l _ r h hr

theorem mapM_places {fs : List Field} : ∀ {r : List FI}, mkFIs P fs = some r → ∀ w : World,
    (fs.mapM (fun (f : Field) => (do let s ← sizeOf f.type; pure (f.offset, s) : Sem (Nat × Nat)))).run P w = .ok (r.map fun y => (y.off, y.size)) w := by
  induction fs with
  | nil => intro r h w; simp [mkFIs] at h; subst h; simp
  | cons f fs ih =>
    intro r h w
    simp only [mkFIs] at h
    split at h
    · rename_i y s hy hs
      simp at h; subst h
      obtain ⟨_, e2, _, _⟩ := mkFI_spec hy
      simp only [List.mapM_cons, Sem.run_bind, run_size_fi hy, Result.andThen_ok, Sem.run_pure, ih hs, List.map_cons, e2]
    · simp at h

theorem doBuild_ok {C : Ctx} (hC : C.Ok P) (hR : Real ρ st w) (ty : Nat) {parts : List (Nat × V)} (hp : ∀ x ∈ parts, x.2.wf st.nx) :
    VOk P ρ st w (Instr.build ty (parts.map fun x => (x.1, x.2.den ρ)).toArray) (doBuild C st ty parts) := by
  unfold doBuild
  split
  · rename_i i hi
    have hT := hC.get hi
    split
    · rename_i zc hz
      have hzz := (hT.run_zero w hz).2 ρ st.nx
      split
      · rename_i flds hu
        split
        · rename_i r hr
          obtain ⟨g1, g2⟩ := fillL_spec (ρ := ρ) hr hzz.1 hp
          refine VOk.same hR g1 ?_
          have hfl : ∃ fs, flds = ⟨fs⟩ := ⟨flds.toList, by simp⟩
          obtain ⟨fs, rfl⟩ := hfl
          have hm : mkFIs P fs = some i.flds := by have := hT.flds; rw [hu] at this; exact this
          simp only [Instr.build, Sem.run_bind, hzz.2, Result.andThen_ok, hT.run_und, hu]
          have hpl := mapM_places hm w
          rw [show ({ toList := fs } : Array Field) = fs.toArray from rfl, List.mapM_toArray, Sem.run_map, hpl]
          simp only [Result.andThen_ok]
          have e : (V.den ρ (V.agg zc)).cells = (V.denL ρ zc).toArray := rfl
          rw [e, fill_congr (q := fun x => (List.map (fun (y : FI) => (y.off, y.size)) i.flds).toArray[x]?) _ _ _ (fun k x hk => by
            rw [nthF_eq] at hk
            split at hk
            · rename_i y hy; simp at hk; subst hk; simp [hy]
            · simp at hk) g2]
          rfl
        · trivial
      · rename_i n' e' hu
        split
        · rename_i y hy
          obtain ⟨e, he, hf⟩ := hT.el y hy
          have hu' : i.und = .array i.len e := by
            rcases he with h | h
            · rw [hu] at h; simp at h
            · exact h
          split
          · rename_i r hr
            obtain ⟨g1, g2⟩ := fillL_spec (ρ := ρ) hr hzz.1 hp
            refine VOk.same hR g1 ?_
            simp only [Instr.build, Sem.run_bind, hzz.2, Result.andThen_ok, hT.run_und, hu', run_size_fi hf]
            have e : (V.den ρ (V.agg zc)).cells = (V.denL ρ zc).toArray := rfl
            have g2' : Instr.fill (fun i => some (i * y.size, y.size)) (V.denL ρ zc).toArray (parts.map fun x => (x.1, x.2.den ρ)) = some (V.denL ρ r).toArray := g2
            simp only [e, g2']
            rfl
          · trivial
        · trivial
      · trivial
    · trivial
  · trivial

def repL (l : List V) : Nat → List V
  | 0 => []
  | n + 1 => l ++ repL l n
theorem repL_wf {l : List V} {N : Nat} (h : V.wfL N l) : ∀ n, V.wfL N (repL l n)
  | 0 => trivial
  | n + 1 => by
    rw [V.wfL_iff] at h ⊢
    intro v hv
    rcases List.mem_append.1 hv with hv | hv
    · exact h v hv
    · exact (V.wfL_iff _ _).1 (repL_wf ((V.wfL_iff _ _).2 h) n) v hv
theorem repL_len (l : List V) : ∀ n, (repL l n).length = n * l.length
  | 0 => by simp [repL]
  | n + 1 => by simp [repL, repL_len l n, Nat.succ_mul]; omega
theorem repL_get (l : List V) : ∀ n i, i < n * l.length → (repL l n)[i]? = l[i % l.length]?
  | 0, i, h => by simp at h
  | n + 1, i, h => by
    simp only [repL]
    rcases Nat.lt_or_ge i l.length with hi | hi
    · rw [List.getElem?_append_left hi, Nat.mod_eq_of_lt hi]
    · rw [List.getElem?_append_right hi, repL_get l n (i - l.length) (by rw [Nat.succ_mul] at h; omega)]
      congr 1
      exact (Nat.mod_eq_sub_mod hi).symm
/-- zeros, as the model lays them -/
theorem zeros_eq {l : List V} {n m : Nat} (hm : m = n * l.length) : (Array.range m).map (fun x => (V.denL ρ l).toArray[x % (V.denL ρ l).toArray.size]!) = (V.denL ρ (repL l n)).toArray := by
  subst hm
  apply Array.ext_getElem?
  intro i
  have e2 : (V.denL ρ l).toArray.size = l.length := by simp [V.denL_eq]
  rw [e2]
  rcases Nat.lt_or_ge i (n * l.length) with hi | hi
  · have hpos : 0 < l.length := by
      rcases Nat.eq_zero_or_pos l.length with h | h
      · rw [h] at hi; simp at hi
      · exact h
    have hml := Nat.mod_lt i hpos
    simp only [Array.getElem?_map, V.denL_eq, List.getElem?_toArray, List.getElem?_map, repL_get l n i hi]
    rw [Array.getElem?_range]
    simp [hi, hml]
  · rw [Array.getElem?_eq_none (by simpa using hi), Array.getElem?_eq_none]
    simp [V.denL_eq, repL_len]; exact hi

def doBuildSlice (C : Ctx) (st : St) (ty len : Nat) (parts : List (Nat × V)) : OpR :=
  match C.ty.get ty with
  | some i => match i.el, i.und with
    | some y, .slice _ => match C.ty.get y.ty with
      | some j => match j.zero with
        | some z => match z.cellsL with
          | some zl => bif Nat.beq zl.length y.size && Nat.ble (Nat.mul len y.size) 16777216 && Nat.ble 1 (Nat.mul len y.size) then
              (match fillL (fun k => some (Nat.mul k y.size, y.size)) (repL zl len) parts with
              | some r => .val (.slice st.nx 0 len (.lit len)) (newCells st r)
              | none => .bad 48)
            else bif Nat.beq len 0 then (match parts with | [] => .val (.slice st.nx 0 0 (.lit 0)) (newCells st []) | _ => .bad 148) else .bad 49
          | none => .bad 50
        | none => .bad 51
      | none => .bad 52
    | _, _ => .bad 53
  | none => .bad 54
theorem slice_new_den {n b len : Nat} : (V.slice n 0 len (.lit len)).den (ρ.setB n b 0) = .slice (some ⟨b, 0, none⟩) len len := by simp [V.den, Env.setB]

theorem doBuildSlice_ok {C : Ctx} (hC : C.Ok P) (hR : Real ρ st w) (ty len : Nat) {parts : List (Nat × V)} (hp : ∀ x ∈ parts, x.2.wf st.nx) :
    VOk P ρ st w (Instr.buildSlice ty len (parts.map fun x => (x.1, x.2.den ρ)).toArray) (doBuildSlice C st ty len parts) := by
  unfold doBuildSlice
  split
  · rename_i i hi
    have hT := hC.get hi
    split
    · rename_i y e' hy hu
      obtain ⟨e, he, hf⟩ := hT.el y hy
      have hu' : i.und = .slice e := by
        rcases he with h | h
        · exact h
        · rw [hu] at h; simp at h
      obtain ⟨ey, _⟩ := mkFI_spec hf
      split
      · rename_i j hj
        have hJ := hC.get hj
        rw [ey] at hJ
        split
        · rename_i z hz
          have hzz := (hJ.run_zero w hz).2 ρ st.nx
          split
          · rename_i zl hzl
            obtain ⟨z1, z2, z3⟩ := V.cellsL_spec hzl
            cases hb : (Nat.beq zl.length y.size && Nat.ble (Nat.mul len y.size) 16777216 && Nat.ble 1 (Nat.mul len y.size))
            · simp only [cond_false]
              cases hl0 : Nat.beq len 0
              · trivial
              · have := Nat.eq_of_beq_eq_true hl0
                subst this
                simp only [cond_true]
                split
                · refine ⟨_, _, newCells_step hR (l := []) trivial e #[] rfl, ⟨Nat.lt_succ_self _, trivial⟩, ?_⟩
                  rw [show (0 : Int) = ((0 : Nat) : Int) from rfl, slice_new_den]
                  have h0 : Array.map (fun (_ : Nat) => (default : Value)) (Array.range 0) = #[] := Array.eq_empty_of_size_eq_zero (by simp)
                  simp [Instr.buildSlice, hT.run_und, hu', run_size_fi hf, Instr.fill, newRow, h0]
                · trivial
            · simp only [Bool.and_eq_true] at hb
              have b1 := Nat.eq_of_beq_eq_true hb.1.1
              have b2 : len * y.size ≤ 16777216 := Nat.le_of_ble_eq_true hb.1.2
              have b3 : 1 ≤ len * y.size := Nat.le_of_ble_eq_true hb.2
              simp only [cond_true]
              split
              · rename_i r hr
                obtain ⟨g1, g2⟩ := fillL_spec (ρ := ρ) hr (repL_wf (z2 _ hzz.1) _) hp
                refine ⟨_, _, newCells_step hR g1 e _ rfl, ⟨Nat.lt_succ_self _, trivial⟩, ?_⟩
                rw [slice_new_den]
                simp only [Instr.buildSlice, Sem.run_bind, hT.run_und, Result.andThen_ok, hu', run_size_fi hf]
                rw [if_neg (by omega)]
                rw [if_neg (by omega)]
                simp only [Sem.run_bind, hzz.2, Result.andThen_ok, Sem.run_pure, z3 ρ]
                rw [zeros_eq (n := len) (by rw [b1])]
                have g2' : Instr.fill (fun i => some (i * y.size, y.size)) (V.denL ρ (repL zl len)).toArray (parts.map fun x => (x.1, x.2.den ρ)) = some (V.denL ρ r).toArray := g2
                simp only [g2', Sem.run_bind, newRow_run, Result.andThen_ok, Sem.run_pure]
              · trivial
          · trivial
        · trivial
      · trivial
    · trivial
  · trivial
end
end Go.Sx
