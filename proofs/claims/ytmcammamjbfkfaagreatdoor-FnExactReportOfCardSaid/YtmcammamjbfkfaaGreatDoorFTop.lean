/-
  PROVED: the given program's law FnExactReportOf returns true for every input, and its argument reads behind the call as it read before (the tied card FnExactReportOfCardSaid).
  CONDITIONS: the row's own: the listed package variables start as the program's text lays them (tied by the card).
-/
import Derived.Test.YtmcammamjbfkfaaGreatDoorFRd
import Derived.Test.YtmcammamjbfkfaaGreatDoorCards
import Derived.Test.YtmcammamjbfkfaaGreatDoorTie
import Derived.WalkKit
import Derived.ProofKit
import Derived.OpenShut
import Derived.Deep.DeepHandedRow
import Derived.Lib.LaidTab
set_option maxHeartbeats 1000000
set_option linter.unusedVariables false
set_option maxRecDepth 100000
namespace Go.Proofs.YtmcammamjbfkfaaGreatDoor.fnReport
open Go.ChangeShapes Go.WideShapes Go.ChangeAt Go.RowKit

theorem own : ownKnob Tryz.prog.godebug = none := by kernel_rfl
theorem gTab : Tryz.prog.globalNamed "internal/strconv.uint64pow10" = some 0 := by kernel_rfl
theorem gTabType : (Tryz.prog.globals[0]?).map (·.type) = some 200 := by kernel_rfl
theorem cells200 : Tryz.prog.cellsOf 200 = 20 := by kernel_rfl
theorem cells167 : Tryz.prog.cellsOf 167 = 1 := by kernel_rfl
theorem laidOut : laidOutB Tryz.prog = true := by kernel_rfl
theorem readable29 : Tryz.prog.readableRec 29 = true := by kernel_rfl
theorem lt29 : 29 < Tryz.prog.types.size := of_decide_eq_true (by kernel_rfl)

/-- WHAT THE ROW's LIST GIVES: the table of powers. -/
theorem table {W : World} (h : laidMetH Tryz.prog Rows.fnExactReportOfRow.laid W) : Ai.IT W := by
  rw [MakeChecks.laidMetH_plain _ _ _ (by kernel_rfl)] at h
  obtain ⟨ps, ⟨g0, t0, cs0, f0, p0, q0, hg0, ht0, hv0, hd0, ⟨g1, t1, cs1, f1, p1, q1, hg1, ht1, hv1, hd1, ⟨g2, t2, cs2, f2, p2, q2, hg2, ht2, hv2, hd2, _, _⟩, _⟩, _⟩, _, _⟩ := h
  obtain rfl := Option.some.inj (gTab.symm.trans hg2)
  obtain rfl := Option.some.inj (gTabType.symm.trans ht2)
  have := Lib.cells_of_tab (zs := Lib.pow10Tab) Tryz.underlying200 Tryz.underlying167 cells167 cells200 hd2
  unfold Ai.IT Lib.TabIs
  rw [hv2]
  exact congrArg some (Array.ext' this)

/-- WHAT THE WALK GIVES, FOR EVERY ARGUMENT AND EVERY WORLD THAT HOLDS THE TABLE. -/
theorem contract (H : Type) (enc : TypeId × Value → H) (W : World) (base : Nat) (args : Array Value) (ds gs : List (DataW H)) (before : List MemPlace)
    (hval : ∀ (j : Nat) t v, Tryz.f3.params[j]? = some t → args[j]? = some v → Value.okWide Tryz.prog W .any base t v)
    (hW : DataW.Whole enc Tryz.prog Tryz.f3.params.toList Rows.fnExactReportOfSpec.vars false W args.toList ds gs before) (hL : laidMetH Tryz.prog Rows.fnExactReportOfRow.laid W) :
    Calls Tryz.prog 3 args W fun e W' => ∃ v, e = .returned v ∧ Rows.fnExactReportOfSpec.post enc Tryz.prog Tryz.f3 false true false false W args v W' := by
  have hW' := hW
  have hlt := hW.lt
  obtain ⟨p, q, hA0, hV, rfl, hfz, hnd⟩ := hW
  have hA : DataW.TrodAll enc Tryz.prog W 0 (fun _ => true) true Tryz.f3.params.toList args.toList ds p := hA0
  rw [Tryz.params3] at hA hval
  obtain ⟨v0, vs0, d0, ds0, p0, q0, hargs, rfl, rfl, h0, r0⟩ := trodAll_cons hA
  obtain ⟨rfl, rfl, rfl⟩ := trodAll_nil r0
  obtain rfl : args = #[v0] := by cases args; simp_all
  obtain ⟨rfl, rfl⟩ := trodVars_none hV
  obtain ⟨us, rfl, hus⟩ := okWide_struct Tryz.underlying29 (hval 0 29 v0 rfl rfl)
  have h0' := h0
  obtain ⟨fuel, hf⟩ := h0'
  obtain ⟨x, ⟨hx1, hx2⟩, hfit1, hfit2⟩ := Ai.rd_hunt hf
  have hcall := Ai.law_ok x hx1 hx2
  have hrel : Ai.ARel W (fun _ => True) [Ai.agg (Ai.encHunt x)] #[.agg us] := by
    refine ⟨rfl, fun i a v ha hv => ?_⟩
    match i, ha, hv with
    | 0, ha, hv =>
      simp at ha hv
      subst ha; subst hv
      have h9 : (Ai.encHunt x).length = us.toList.length := hfit1
      refine .agg _ _ (by simpa using h9) fun i c u hc hu => ?_
      rw [List.getElem?_map, Option.map_eq_some_iff] at hc
      obtain ⟨d, hd, rfl⟩ := hc
      exact .d _ _ (hfit2 i d u hd (by simpa [Value.cells] using hu))
    | i + 1, ha, hv => simp at ha
  have hinv := hcall W (fun _ => True) _ (table hL) hrel
  have e3 : (callFunc 3 #[Value.agg us]).run Tryz.prog W = .ok (.enter 3 #[Value.agg us]) W := enters_of Tryz.func3 (by kernel_rfl) rfl _ W
  unfold Ai.Invokes at hinv
  rw [show Sem.run Ai.EE.P (callFunc 3 #[Value.agg us]) W = _ from e3] at hinv
  refine Calls.mono (show Calls Tryz.prog 3 #[Value.agg us] W _ from hinv) ?_
  rintro e W' ⟨v, rfl, r, rfl, hb, hr⟩
  have hvt : v = .bool true := by
    cases hr with
    | d _ _ hd => cases hd; rfl
  subst hvt
  have hst : DataW.Trod enc Tryz.prog W' 0 (fun b => decide (b < W.heap.size)) true 29 (.agg us) d0 p0 :=
    Below.trod laidOut readable29 lt29 h0 hb (fun y hy => hlt y (by simpa using hy))
  refine ⟨_, rfl, [d0], [], _, [], p0, [], hW', ?_, ?_, ?_, hb.frame _, fun hh => by cases hh⟩
  · exact trodAll_mk1 (shut_bool Tryz.underlying4 _)
  · exact trodAll_mk1 hst
  · rfl

/-- A WORLD FOR THE WITNESS: the settled one, the tables holding what their initialisers lay. -/
def ofLaid : DataW Unit → Array Value
  | .agg ds => (ds.map fun d => match d with | .lit (.int k n) => Value.int k n | _ => undef).toArray
  | _ => #[]
def lay (vs : Array Value) : Obj → Obj
  | .cells _ t frozen => .cells vs t frozen
  | o => o
noncomputable def laidWorld (os : Os) : World :=
  { World.holding Tryz.prog os ⟨#[], #[], []⟩ with heap := (((World.holding Tryz.prog os ⟨#[], #[], []⟩).heap.modify 0 (lay (ofLaid Rows.laid_internal_strconv_uint64pow10))).modify 3 (lay (ofLaid Rows.laid_math_bits_deBruijn32tab))).modify 4 (lay (ofLaid Rows.laid_math_bits_deBruijn64tab)) }
abbrev wit : Value := .agg #[.int .i64 0, .int .i64 0, .int .i64 0, .slice none 0 0, .slice none 0 0, .slice none 0 0, .slice none 0 0, .int .i64 0]
theorem laid_met (os : Os) : laidMet Tryz.prog Rows.fnExactReportOfRow.laid ((laidWorld os).forCall (fun _ _ => 0) ⟨#[], #[wit], []⟩).memory :=
  laidMet_of_run' 8 (by kernel_rfl) (by kernel_rfl)
theorem reads (os : Os) {H : Type} (enc : TypeId × Value → H) : ∃ places, DataW.whole enc Tryz.prog ((laidWorld os).forCall (fun _ _ => 0) ⟨#[], #[wit], []⟩).memory Tryz.f3.params.toList Rows.fnExactReportOfSpec.vars false #[wit].toList 8 =
    some ([.agg [.agg [.lit (.int .i64 0), .lit (.int .i64 0), .lit (.int .i64 0), .nil], .nil, .nil, .nil, .lit (.int .i64 0)]], [], places) :=
  ⟨[], by kernel_rfl⟩

/-- THE FIRST FORM's STEP. -/
theorem lifted (os : Os) (started : os.Started) (H : Type) (enc : TypeId × Value → H) (F : Stop.Interp) :
    ReturnsInHanded {} Tryz.checked os 3 .any ((OpenSpec.ofChange Rows.fnExactReportOfSpec).preRow enc Tryz.prog Tryz.f3 Rows.fnExactReportOfRow.domain false Rows.fnExactReportOfRow.laid) (((OpenSpec.ofChange Rows.fnExactReportOfSpec).at F).post enc Tryz.prog Tryz.f3 false true false false) := by
  obtain ⟨places, hx⟩ := reads os enc
  refine returnsInHanded_of_row (C := Tryz.checked) (s := OpenSpec.ofChange Rows.fnExactReportOfSpec) own started (by kernel_rfl) Tryz.func3
    (witness_row_at (enc := enc) (C := Tryz.checked) false (laidWorld os) #[wit] rfl (by kernel_rfl) (by kernel_rfl) (by kernel_rfl)
      (OpenSpec.preRow_of_cond 8 hx (by kernel_rfl) (fun k hk => by cases hk) (by kernel_rfl) (laid_met os))) ?_
  intro W base args ds gs before hval hW _ _ _ hL _ _
  exact contract H enc W base args ds gs before hval hW hL

theorem said : Rows.FnExactReportOfSaid :=
  OpenClaim.holds_of_cond 3 Tryz.f3 rfl rfl rfl rfl rfl rfl rfl ⟨rfl, rfl, rfl, rfl, rfl⟩ rfl rfl rfl rfl rfl (by kernel_rfl) Tryz.func3 (by kernel_rfl)
    (of_decide_eq_true (by kernel_rfl)) (by unfold Func.isWrapper; first | (rw [if_pos (by decide +kernel)]; kernel_rfl) | (rw [if_neg (by decide +kernel)]; exact ⟨rfl, rfl⟩))
    (fun os started H enc _ F => by rw [OpenClaim.pre_eq_preRow]; exact lifted os started H enc F)

/-- No parameter wants a stand-in; the program's own looks are off: what the card asks. -/
theorem plain (f : FuncId) (fn : Func) (hf : Tryz.pinned.checked.prog.funcNamed "loop.example/g00696/laws.FnExactReportOf" = some f) (hfn : Tryz.pinned.checked.prog.funcs[f]? = some fn) :
    false = Tryz.pinned.checked.prog.looks [] ∧ ∀ (j : Nat) t, fn.params[j]? = some t → Tryz.pinned.checked.prog.wantsStandIn t = false := by
  obtain rfl : f = 3 := Option.some.inj ((show Tryz.prog.funcNamed "loop.example/g00696/laws.FnExactReportOf" = some 3 by kernel_rfl).symm.trans hf) |>.symm
  obtain rfl : fn = Tryz.f3 := (Option.some.inj (Tryz.func3.symm.trans hfn)).symm
  refine ⟨by kernel_rfl, fun j t ht => ?_⟩
  rw [Tryz.params3] at ht
  obtain rfl : t = 29 := by simpa using Array.mem_of_getElem? ht
  exact (show Tryz.prog.wantsStandIn 29 = false by kernel_rfl)
/-- THE CARD. -/
theorem card : Rows.FnExactReportOfCardSaid :=
  Claim7.holds_tied_plain_at .later [] _ _ _ _ said (fun _ h => by cases h) (by kernel_rfl) (fun _ h => by cases h) fnExactReportOf_row_tie rfl ⟨rfl, rfl⟩ (by kernel_rfl) rfl plain (by kernel_rfl)
end Go.Proofs.YtmcammamjbfkfaaGreatDoor.fnReport
