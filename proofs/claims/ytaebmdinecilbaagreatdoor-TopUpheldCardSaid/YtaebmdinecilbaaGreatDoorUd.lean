/- The tied card of the law TopUpheld holds: at every input the call returns true, and each argument reads behind the call as it read before; its one listed variable is tied to the program's text. -/
import Derived.Test.YtaebmdinecilbaaGreatDoorRows
import Derived.Test.YtaebmdinecilbaaGreatDoorTie
import Derived.Test.YtaebmdinecilbaaGreatDoorCards
import Derived.Test.YtaebmdinecilbaaGreatDoorUc
import Derived.Test.YtaebmdinecilbaaGreatDoorUf
import Derived.ProofKit
import Derived.WideKeyPair
import Derived.Below
import Derived.ChangeSame
import Derived.ChangeVars
import Derived.JoinedOf
import Derived.RowKit
import Derived.RowKitTokens
import Derived.LaidLaws
import Derived.LaidHandle
import Derived.Stop.Joined
import Derived.SevenTiedAt
namespace Go.Proofs.YtaebmdinecilbaaGreatDoor
open Go.ChangeShapes Go.WideShapes Go.ChangeAt Go.RowKit Go.WideMaps

section
variable {H : Type} {enc : TypeId × Value → H} {P : Program}
theorem post_of_below {f : Func} {s : ChangeSpec} {apart fresh handsOn again : Bool} {W W' : World} {args : Array Value} {v : Value} {ds gs : List (DataW H)} {before pa pv : List MemPlace}
    (hW : DataW.Whole enc P f.params.toList s.vars apart W args.toList ds gs before)
    (hres : ∀ (b : Nat) (sp : Nat → Bool) (hd : Bool), DataW.TrodAll enc P W' b sp hd f.resultTypes.toList (v.resultList f.resultTypes.size) (s.fn H (ds ++ gs)).results [])
    (hargs : ∀ sp : Nat → Bool, (∀ p ∈ before, sp p.block = true) → DataW.TrodAll enc P W' 0 sp true f.params.toList args.toList (s.fn H (ds ++ gs)).args pa)
    (hvars : ∀ sp : Nat → Bool, (∀ p ∈ before, sp p.block = true) → DataW.TrodVars enc P W' sp s.vars (s.fn H (ds ++ gs)).vars pv)
    (hps : before = pa ++ pv) (hb : Below W.heap.size W W')
    (hok : ∀ (j : Nat) (t : TypeId) (r : Value), f.resultTypes[j]? = some t → (v.resultList f.resultTypes.size)[j]? = some r → Value.okWide P W' .any 0 t r) :
    s.post enc P f apart fresh handsOn again W args v W' := by
  have hlt : ∀ p ∈ before, p.block < W.heap.size := fun p hp => hW.lt p hp
  have hold : ∀ p ∈ before, (fun b => decide (b < W.heap.size)) p.block = true := fun p hp => by simpa using hlt p hp
  refine ⟨ds, gs, before, [], pa, pv, hW, hres _ _ _, hargs _ hold, hvars _ hold, World.keptBut_mono (fun p hp => ⟨hp, ?_⟩) (hb.frame (· ∈ before)), fun _ => ?_⟩
  · rw [hps, List.mem_append] at hp
    exact Or.inr hp
  · obtain ⟨_, _, _, _, _, hz, hn⟩ := hW
    refine ⟨hok, _, _, ([] ++ pa) ++ pv, ⟨[] ++ pa, pv, trodAll_append (hargs _ (fun _ _ => rfl)) (hres _ _ _), hvars _ (fun _ _ => rfl), rfl, ?_, ?_⟩, ?_⟩
    · intro b off hp
      have hin : MemPlace.cell b off ∈ before := by rw [hps]; simpa using hp
      rw [hb.frozen (hlt _ hin)]
      exact hz b off hin
    · intro ha
      have := hn ha
      rw [hps] at this
      simpa using this
    · intro p hp _
      rw [hps]
      simpa using hp
end

theorem trodAll_mkc {H : Type} {enc : TypeId × Value → H} {P : Program} {w : World} {base : Nat} {spare : Nat → Bool} {held : Bool} {t : TypeId} {ts : List TypeId} {v : Value} {vs : List Value} {d : DataW H} {ds : List (DataW H)}
    (h : DataW.Trod enc P w base spare held t v d []) (h' : DataW.TrodAll enc P w base spare held ts vs ds []) : DataW.TrodAll enc P w base spare held (t :: ts) (v :: vs) (d :: ds) [] := ⟨[], [], h, h', rfl⟩
theorem wf_u8 {n : Int} (h : (Lit.int .u8 n).wf = true) : 0 ≤ n ∧ n ≤ 255 := by
  simp only [Lit.wf, Bool.and_eq_true, decide_eq_true_eq] at h
  exact h
theorem Tryz.own : ownKnob Tryz.prog.godebug = none := by kernel_rfl
theorem und4 : Tryz.prog.underlying 4 = some .bool := by kernel_rfl
theorem und5 : Tryz.prog.underlying 5 = some (.int .u8) := by kernel_rfl
theorem arr22 : ArrKey Tryz.prog 22 5 2 := ⟨by kernel_rfl, by kernel_rfl, by kernel_rfl, by kernel_rfl⟩

/-- A world that meets the condition: the settled one, the variable's cell laid. -/
noncomputable def laidWorld (os : Os) : World :=
  let w0 := World.holding Tryz.prog os ⟨#[], #[], []⟩
  { w0 with heap := w0.heap.modify 0 fun
      | .cells _ t frozen => .cells #[.iface 414 (.agg #[.pointer (some ⟨4, 166, none⟩)])] t frozen
      | o => o }
theorem laidWorld_met (os : Os) (args : Array Value) : laidMetH Tryz.prog Rows.topUpheldRow.laid ((laidWorld os).forCall (fun _ _ => 0) ⟨#[], args, []⟩).memory :=
  laidMetH_of_parts (laidMet_nil _ _) (by kernel_rfl)

set_option maxRecDepth 100000 in
theorem upheld_lifted (os : Os) (started : os.Started) (H : Type) (enc : TypeId × Value → H) :
    ReturnsInHanded {} Tryz.checked os 3 .any (fun w args => (Rows.topUpheldSpec.pre enc Tryz.prog Tryz.f3 [] false w args ∧ laidMetH Tryz.prog Rows.topUpheldRow.laid w) ∧ sizedMet enc Tryz.prog Tryz.f3 (OpenSpec.ofChange Rows.topUpheldSpec) false w args)
      (Rows.topUpheldSpec.post enc Tryz.prog Tryz.f3 false true false false) := by
  refine returnsInHanded_of_change_and (C := Tryz.checked) (X := fun w _ => laidMetH Tryz.prog Rows.topUpheldRow.laid w) (fun _ _ _ hh h => h.of_heap hh) Tryz.own started (by kernel_rfl) Tryz.func3
    (ChangeSpec.witness_at (enc := enc) (C := Tryz.checked) (os := os) (X := fun w _ => laidMetH Tryz.prog Rows.topUpheldRow.laid w) false (laidWorld os) #[.int .u8 0, .int .u8 0, .agg #[.int .u8 0, .int .u8 0], .int .u8 0] 8 rfl (by kernel_rfl) (by kernel_rfl) (by kernel_rfl) (by kernel_rfl) (by kernel_rfl) (laidWorld_met os _)) ?_
  intro W base args ds gs before hval0 hW _ _ _ _
  have hval : ∀ (j : Nat) t v, Tryz.f3.params[j]? = some t → args[j]? = some v → Value.okWide Tryz.prog W .any base t v := hval0
  have hW' := hW
  obtain ⟨p, q, hA0, hV, rfl, hfz, hnd⟩ := hW
  have hA : DataW.TrodAll enc Tryz.prog W 0 (fun _ => true) true Tryz.f3.params.toList args.toList ds p := hA0
  rw [Tryz.params3] at hA hval
  obtain ⟨l, rfl⟩ : ∃ l, args = l.toArray := ⟨args.toList, by simp⟩
  obtain ⟨v0, l1, d0, e1, p0, q1, hl, rfl, rfl, h0, hA1⟩ := trodAll_cons hA
  obtain ⟨v1, l2, d1, e2, p1, q2, rfl, rfl, rfl, h1, hA2⟩ := trodAll_cons hA1
  obtain ⟨v2, l3, d2, e3, p2, q3, rfl, rfl, rfl, h2, hA3⟩ := trodAll_cons hA2
  obtain ⟨v3, l4, d3, e4, p3, q4, rfl, rfl, rfl, h3, hA4⟩ := trodAll_cons hA3
  obtain ⟨rfl, rfl, rfl⟩ := trodAll_nil hA4
  simp only at hl
  subst hl
  obtain ⟨rfl, rfl⟩ := trodVars_none hV
  obtain ⟨a, rfl, rfl, rfl, wa⟩ := open_int und5 (hval 0 5 v0 rfl rfl) h0
  obtain ⟨b, rfl, rfl, rfl, wb⟩ := open_int und5 (hval 1 5 v1 rfl rfl) h1
  obtain ⟨x0, x1, rfl, rfl, rfl, wx0, wx1⟩ := open_pair arr22 und5 (hval 2 22 v2 rfl rfl) h2
  obtain ⟨lt, rfl, rfl, rfl, wl⟩ := open_int und5 (hval 3 5 v3 rfl rfl) h3
  clear hA0 hval0 hA hA1 hA2 hA3 hA4
  simp only [List.append_nil] at hW'
  refine (up_calls (wf_u8 wa) (wf_u8 wb) (wf_u8 wx0) (wf_u8 wx1) (wf_u8 wl) W).mono fun e W' ⟨he, hw⟩ => ?_
  subst he
  refine ⟨_, rfl, post_of_below (pa := []) (pv := []) hW' (fun _ _ _ => trodAll_mk1 (shut_bool und4 true)) (fun sp _ => ?_) (fun _ _ => rfl) rfl hw (ok_one (by kernel_rfl) rfl (okWide_bool_mk und4 true))⟩
  show DataW.TrodAll enc Tryz.prog W' 0 sp true Tryz.f3.params.toList _ _ []
  rw [Tryz.params3]
  exact trodAll_mkc (shut_int und5 wa) (trodAll_mkc (shut_int und5 wb) (trodAll_mkc (shut_pair arr22 und5 wx0 wx1) (trodAll_mkc (shut_int und5 wl) trodAll_mk0)))

theorem topUpheld_holds : Rows.TopUpheldSaid :=
  OpenClaim.holds_of_wide 3 Tryz.f3 rfl rfl rfl rfl rfl rfl rfl ⟨rfl, rfl, rfl, rfl, rfl⟩ rfl rfl rfl rfl rfl up_func Tryz.func3 up_facts up_inst up_wrap
    (fun os started H enc _ => upheld_lifted os started H enc)

theorem topUpheldCard_holds : Rows.TopUpheldCardSaid :=
  Claim7.holds_tied_plain_at .later [] [.handle] true (true, "6614fe415a622d9a57241400fc89b72ccfff7226e21f18af766c14cdfcb11497") true
    topUpheld_holds (fun _ h => by cases h) up_card_wf (fun _ h => by cases h) topUpheld_row_tie rfl ⟨rfl, rfl⟩ up_main rfl
    (fun f fn hf hfn => by
      obtain rfl : f = 3 := Option.some.inj (up_func.symm.trans hf) |>.symm
      obtain rfl : fn = Tryz.f3 := (Option.some.inj (Tryz.func3.symm.trans hfn)).symm
      exact ⟨up_looks, fun j t ht => by
        rw [Tryz.params3] at ht
        have hm : t ∈ [5, 5, 22, 5] := by simpa using Array.mem_of_getElem? ht
        exact (show Tryz.prog.wantsStandIn t = false by simpa using List.all_eq_true.1 up_stand t hm)⟩)
    up_goes
end Go.Proofs.YtaebmdinecilbaaGreatDoor
