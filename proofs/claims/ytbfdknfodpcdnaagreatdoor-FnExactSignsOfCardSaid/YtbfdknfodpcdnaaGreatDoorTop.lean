/-
  PROVED: the given program's law FnExactSignsOf returns true for every input, and its arguments read behind the call as1 they read before (the tied card FnExactSignsOfCardSaid).
  CONDITIONS: the row's own: the listed package variables start as1 the program's text lays them (tied by the card).
-/
import Derived.Test.YtbfdknfodpcdnaaGreatDoorZF
import Derived.Test.YtbfdknfodpcdnaaGreatDoorCards
import Derived.Test.YtbfdknfodpcdnaaGreatDoorTie
import Derived.WalkKit
import Derived.ProofKit
import Derived.OpenShut
import Derived.Deep.DeepHandedRow
import Derived.Lib.LaidTab
set_option maxHeartbeats 8000000
set_option linter.unusedVariables false
set_option maxRecDepth 100000
namespace Go.Proofs.YtbfdknfodpcdnaaGreatDoor.fnExactSignsOf
open Go.ChangeShapes Go.WideShapes Go.ChangeAt Go.RowKit

theorem own : ownKnob Tryz.prog.godebug = none := by kernel_rfl
theorem gTab : Tryz.prog.globalNamed "internal/strconv.uint64pow10" = some 0 := by kernel_rfl
theorem gTabType : (Tryz.prog.globals[0]?).map (·.type) = some 271 := by kernel_rfl
theorem cellsTab : Tryz.prog.cellsOf 271 = 20 := by kernel_rfl
theorem cellsEl : Tryz.prog.cellsOf 230 = 1 := by kernel_rfl
theorem laidOut : laidOutB Tryz.prog = true := by kernel_rfl
theorem readable3 : Tryz.prog.readableRec 3 = true := by kernel_rfl
theorem lt3 : 3 < Tryz.prog.types.size := of_decide_eq_true (by kernel_rfl)
theorem readable24 : Tryz.prog.readableRec 24 = true := by kernel_rfl
theorem lt24 : 24 < Tryz.prog.types.size := of_decide_eq_true (by kernel_rfl)

/-- WHAT THE ROW's LIST GIVES: the table of powers. -/
theorem table {W : World} (h : laidMetH Tryz.prog Rows.fnExactSignsOfRow.laid W) : Ai.IT W := by
  rw [MakeChecks.laidMetH_plain _ _ _ (by kernel_rfl)] at h
  obtain ⟨ps, ⟨g0, t0, cs0, f0, p0, q0, hg0, ht0, hv0, hd0, ⟨g1, t1, cs1, f1, p1, q1, hg1, ht1, hv1, hd1, ⟨g2, t2, cs2, f2, p2, q2, hg2, ht2, hv2, hd2, _, _⟩, _⟩, _⟩, _, _⟩ := h
  obtain rfl := Option.some.inj (gTab.symm.trans hg2)
  obtain rfl := Option.some.inj (gTabType.symm.trans ht2)
  have := Lib.cells_of_tab (zs := Lib.pow10Tab) Tryz.underlying271 Tryz.underlying230 cellsEl cellsTab hd2
  unfold Ai.IT Lib.TabIs
  rw [hv2]
  exact congrArg some (Array.ext' this)

theorem args_rel {W : World} {al : List Ai.AV} {vs : List Value} (hl : al.length = vs.length) (h : ∀ (i : Nat) (a : Ai.AV) (v : Value), al[i]? = some a → vs[i]? = some v → Ai.VRel W (fun x => x < W.heap.size ∧ True) (fun _ => none) (fun _ => none) a v) : Ai.ARel W (fun _ => True) al vs.toArray :=
  ⟨by simpa using hl, fun i a v ha hv => h i a v ha (by simpa using hv)⟩
theorem rel_agg {W : World} {ds : List Ai.D} {us : Array Value} (h : Ai.Fits W ds us.toList) : Ai.VRel W (fun x => x < W.heap.size ∧ True) (fun _ => none) (fun _ => none) (Ai.agg ds) (.agg us) := by
  refine .agg _ us (by simpa using h.1) fun i c u hc hu => ?_
  rw [List.getElem?_map, Option.map_eq_some_iff] at hc
  obtain ⟨d, hd, rfl⟩ := hc
  exact .d _ _ (h.2 i d u hd (by simpa using hu))
theorem rel_d {W : World} {d : Ai.D} {v : Value} (h : Ai.Fits W [d] [v]) : Ai.VRel W (fun x => x < W.heap.size ∧ True) (fun _ => none) (fun _ => none) (.d d) v := .d _ _ (h.2 0 d v rfl rfl)
/-- WHAT THE WALK GIVES, FOR EVERY ARGUMENT AND EVERY WORLD THAT HOLDS THE TABLE. -/
theorem contract (H : Type) (enc : TypeId × Value → H) (W : World) (base : Nat) (args : Array Value) (ds gs : List (DataW H)) (before : List MemPlace)
    (hval : ∀ (j : Nat) t v, Tryz.f4.params[j]? = some t → args[j]? = some v → Value.okWide Tryz.prog W .any base t v)
    (hW : DataW.Whole enc Tryz.prog Tryz.f4.params.toList Rows.fnExactSignsOfSpec.vars false W args.toList ds gs before) (hL : laidMetH Tryz.prog Rows.fnExactSignsOfRow.laid W) :
    Calls Tryz.prog 4 args W fun e W' => ∃ v, e = .returned v ∧ Rows.fnExactSignsOfSpec.post enc Tryz.prog Tryz.f4 false true false false W args v W' := by
  have hW' := hW
  have hlt := hW.lt
  obtain ⟨p, q, hA0, hV, rfl, hfz, hnd⟩ := hW
  have hA : DataW.TrodAll enc Tryz.prog W 0 (fun _ => true) true Tryz.f4.params.toList args.toList ds p := hA0
  rw [Tryz.params4] at hA hval
  obtain ⟨v0, vs0, d0, ds0, p0, q0, hargs, rfl, rfl, h0, r0⟩ := trodAll_cons hA
  obtain ⟨v1, vs1, d1, ds1, p1, q1, rfl, rfl, rfl, h1, r1⟩ := trodAll_cons r0
  obtain ⟨rfl, rfl, rfl⟩ := trodAll_nil r1
  obtain rfl : args = #[v0, v1] := by cases args; simp_all
  obtain ⟨rfl, rfl⟩ := trodVars_none hV
  obtain ⟨us0, rfl, hus0⟩ := okWide_struct Tryz.underlying24 (hval 0 24 v0 rfl rfl)
  obtain ⟨fuel0, hf0⟩ := id h0
  obtain ⟨x0, ⟨hx0, hy0⟩, fit0⟩ := Ai.rd_prog hf0
  have rel0 := rel_agg fit0
  obtain ⟨n1, rfl⟩ := okWide_int Tryz.underlying3 (hval 1 3 v1 rfl rfl)
  obtain ⟨fuel1, hf1⟩ := id h1
  obtain ⟨x1, fit1⟩ := Ai.rd_int hf1
  have rel1 := rel_d fit1
  have hcall := Ai.lawSigns x0 hx0 hy0 x1
  have hrel : Ai.ARel W (fun _ => True) [Ai.agg (Ai.encProg x0), Ai.i64 x1] [(.agg us0 : Value), .int .i64 n1].toArray := by
    refine args_rel rfl fun i a v ha hv => ?_
    match i, ha, hv with
    | 0, ha, hv => cases ha; cases hv; exact rel0
    | 1, ha, hv => cases ha; cases hv; exact rel1
    | i + 2, ha, hv => cases ha
  have hinv := hcall W (fun _ => True) _ (table hL) hrel
  have e3 : (callFunc 4 #[(.agg us0 : Value), .int .i64 n1]).run Tryz.prog W = .ok (.enter 4 #[(.agg us0 : Value), .int .i64 n1]) W := enters_of Tryz.func4 (by kernel_rfl) rfl _ W
  unfold Ai.Invokes at hinv
  rw [show Sem.run Ai.EE.P (callFunc 4 #[(.agg us0 : Value), .int .i64 n1]) W = _ from e3] at hinv
  refine Calls.mono (show Calls Tryz.prog 4 #[(.agg us0 : Value), .int .i64 n1] W _ from hinv) ?_
  rintro e W' ⟨v, rfl, r, rfl, hb, hr⟩
  have hvt : v = .bool true := by
    cases hr with
    | d _ _ hd => cases hd; rfl
  subst hvt
  have st0 : DataW.Trod enc Tryz.prog W' 0 (fun b => decide (b < W.heap.size)) true 24 (.agg us0) d0 p0 :=
    Below.trod laidOut readable24 lt24 h0 hb (fun y hy => hlt y (by simp [hy]))
  have st1 : DataW.Trod enc Tryz.prog W' 0 (fun b => decide (b < W.heap.size)) true 3 (.int .i64 n1) d1 p1 :=
    Below.trod laidOut readable3 lt3 h1 hb (fun y hy => hlt y (by simp [hy]))
  refine ⟨_, rfl, [d0, d1], [], _, [], p0 ++ (p1 ++ []), [], hW', ?_, ?_, ?_, hb.frame _, fun hh => by cases hh⟩
  · exact trodAll_mk1 (shut_bool Tryz.underlying4 _)
  · exact (trodAll_cons_mk st0 (trodAll_cons_mk st1 (show DataW.TrodAll enc Tryz.prog _ _ _ _ [] [] [] [] from rfl)))
  · rfl

/-- A WORLD FOR THE WITNESS: the settled one, the tables holding what their initialisers lay. -/
def ofLaid : DataW Unit → Array Value
  | .agg ds => (ds.map fun d => match d with | .lit (.int k n) => Value.int k n | _ => undef).toArray
  | _ => #[]
def lay (vs : Array Value) : Obj → Obj
  | .cells _ t frozen => .cells vs t frozen
  | o => o
noncomputable def laidWorld (os : Os) : World :=
  { World.holding Tryz.prog os ⟨#[], #[], []⟩ with heap := (((World.holding Tryz.prog os ⟨#[], #[], []⟩).heap.modify 0 (lay (ofLaid Rows.laid_internal_strconv_uint64pow10))).modify 3 (lay (ofLaid Rows.laid_math_bits_deBruijn32tab))).modify 4 (lay (ofLaid Rows.laid_math_bits_deBruijn64tab)) }
theorem laid_met (os : Os) : laidMet Tryz.prog Rows.fnExactSignsOfRow.laid ((laidWorld os).forCall (fun _ _ => 0) ⟨#[], #[(.agg #[.int .i64 0, .int .i64 0, .int .i64 0, .slice none 0 0] : Value), .int .i64 0], []⟩).memory :=
  laidMet_of_run' 8 (by kernel_rfl) (by kernel_rfl)
theorem reads (os : Os) {H : Type} (enc : TypeId × Value → H) : ∃ places, DataW.whole enc Tryz.prog ((laidWorld os).forCall (fun _ _ => 0) ⟨#[], #[(.agg #[.int .i64 0, .int .i64 0, .int .i64 0, .slice none 0 0] : Value), .int .i64 0], []⟩).memory Tryz.f4.params.toList Rows.fnExactSignsOfSpec.vars false #[(.agg #[.int .i64 0, .int .i64 0, .int .i64 0, .slice none 0 0] : Value), .int .i64 0].toList 8 =
    some ([.agg [.lit (.int .i64 0), .lit (.int .i64 0), .lit (.int .i64 0), .nil], .lit (.int .i64 0)], [], places) :=
  ⟨[], by kernel_rfl⟩

/-- THE FIRST FORM's STEP. -/
theorem lifted (os : Os) (started : os.Started) (H : Type) (enc : TypeId × Value → H) (F : Stop.Interp) :
    ReturnsInHanded {} Tryz.checked os 4 .any ((OpenSpec.ofChange Rows.fnExactSignsOfSpec).preRow enc Tryz.prog Tryz.f4 Rows.fnExactSignsOfRow.domain false Rows.fnExactSignsOfRow.laid) (((OpenSpec.ofChange Rows.fnExactSignsOfSpec).at F).post enc Tryz.prog Tryz.f4 false true false false) := by
  obtain ⟨places, hx⟩ := reads os enc
  refine returnsInHanded_of_row (C := Tryz.checked) (s := OpenSpec.ofChange Rows.fnExactSignsOfSpec) own started (by kernel_rfl) Tryz.func4
    (witness_row_at (enc := enc) (C := Tryz.checked) false (laidWorld os) #[(.agg #[.int .i64 0, .int .i64 0, .int .i64 0, .slice none 0 0] : Value), .int .i64 0] rfl (by kernel_rfl) (by kernel_rfl) (by kernel_rfl)
      (OpenSpec.preRow_of_cond 8 hx (by kernel_rfl) (fun k hk => by cases hk) (by kernel_rfl) (laid_met os))) ?_
  intro W base args ds gs before hval hW _ _ _ hL _ _
  exact contract H enc W base args ds gs before hval hW hL

theorem said : Rows.FnExactSignsOfSaid :=
  OpenClaim.holds_of_cond 4 Tryz.f4 rfl rfl rfl rfl rfl rfl rfl ⟨rfl, rfl, rfl, rfl, rfl⟩ rfl rfl rfl rfl rfl (by kernel_rfl) Tryz.func4 (by kernel_rfl)
    (of_decide_eq_true (by kernel_rfl)) (by unfold Func.isWrapper; first | (rw [if_pos (by decide +kernel)]; kernel_rfl) | (rw [if_neg (by decide +kernel)]; exact ⟨rfl, rfl⟩))
    (fun os started H enc _ F => by rw [OpenClaim.pre_eq_preRow]; exact lifted os started H enc F)

/-- No parameter wants a stand-in; the program's own looks are off: what the card asks. -/
theorem plain (f : FuncId) (fn : Func) (hf : Tryz.pinned.checked.prog.funcNamed "loop.example/g00696/laws.FnExactSignsOf" = some f) (hfn : Tryz.pinned.checked.prog.funcs[f]? = some fn) :
    false = Tryz.pinned.checked.prog.looks [] ∧ ∀ (j : Nat) t, fn.params[j]? = some t → Tryz.pinned.checked.prog.wantsStandIn t = false := by
  obtain rfl : f = 4 := Option.some.inj ((show Tryz.prog.funcNamed "loop.example/g00696/laws.FnExactSignsOf" = some 4 by kernel_rfl).symm.trans hf) |>.symm
  obtain rfl : fn = Tryz.f4 := (Option.some.inj (Tryz.func4.symm.trans hfn)).symm
  refine ⟨by kernel_rfl, fun j t ht => ?_⟩
  rw [Tryz.params4] at ht
  have hm := Array.mem_of_getElem? ht
  simp only [List.mem_toArray, List.mem_cons, List.not_mem_nil, or_false] at hm
  rcases hm with rfl | rfl
  · exact (show Tryz.prog.wantsStandIn 24 = false by kernel_rfl)
  · exact (show Tryz.prog.wantsStandIn 3 = false by kernel_rfl)
/-- THE CARD. -/
theorem card : Rows.FnExactSignsOfCardSaid :=
  Claim7.holds_tied_plain_at .later [] _ _ _ _ said (fun _ h => by cases h) (by kernel_rfl) (fun _ h => by cases h) fnExactSignsOf_row_tie rfl ⟨rfl, rfl⟩ (by kernel_rfl) rfl plain (by kernel_rfl)
end Go.Proofs.YtbfdknfodpcdnaaGreatDoor.fnExactSignsOf
