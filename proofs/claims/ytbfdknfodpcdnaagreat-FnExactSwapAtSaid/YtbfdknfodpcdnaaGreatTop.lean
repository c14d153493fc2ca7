/-
  PROVED: the given program's law FnExactSwapAt returns true for every input, and its arguments read behind the call as1 they read before (FnExactSwapAtSaid).
  CONDITIONS: none but the row's own.
-/
import Derived.Test.YtbfdknfodpcdnaaGreatZF
import Derived.Test.YtbfdknfodpcdnaaGreatRows
import Derived.WalkKit
import Derived.ProofKit
import Derived.OpenShut
import Derived.Deep.DeepHandedRow
import Derived.Lib.LaidTab
set_option maxHeartbeats 8000000
set_option linter.unusedVariables false
set_option maxRecDepth 100000
namespace Go.Proofs.YtbfdknfodpcdnaaGreat.fnExactSwapAt
open Go.ChangeShapes Go.WideShapes Go.ChangeAt Go.RowKit

theorem own : ownKnob Tryz.prog.godebug = none := by kernel_rfl
theorem laidOut : laidOutB Tryz.prog = true := by kernel_rfl
theorem readable3 : Tryz.prog.readableRec 3 = true := by kernel_rfl
theorem lt3 : 3 < Tryz.prog.types.size := of_decide_eq_true (by kernel_rfl)
theorem readable24 : Tryz.prog.readableRec 24 = true := by kernel_rfl
theorem lt24 : 24 < Tryz.prog.types.size := of_decide_eq_true (by kernel_rfl)
theorem readable32 : Tryz.prog.readableRec 32 = true := by kernel_rfl
theorem lt32 : 32 < Tryz.prog.types.size := of_decide_eq_true (by kernel_rfl)
theorem args_rel {W : World} {al : List Ai.AV} {vs : List Value} (hl : al.length = vs.length) (h : ∀ (i : Nat) (a : Ai.AV) (v : Value), al[i]? = some a → vs[i]? = some v → Ai.VRel W (fun x => x < W.heap.size ∧ True) (fun _ => none) (fun _ => none) a v) : Ai.ARel W (fun _ => True) al vs.toArray :=
  ⟨by simpa using hl, fun i a v ha hv => h i a v ha (by simpa using hv)⟩
theorem rel_agg {W : World} {ds : List Ai.D} {us : Array Value} (h : Ai.Fits W ds us.toList) : Ai.VRel W (fun x => x < W.heap.size ∧ True) (fun _ => none) (fun _ => none) (Ai.agg ds) (.agg us) := by
  refine .agg _ us (by simpa using h.1) fun i c u hc hu => ?_
  rw [List.getElem?_map, Option.map_eq_some_iff] at hc
  obtain ⟨d, hd, rfl⟩ := hc
  exact .d _ _ (h.2 i d u hd (by simpa using hu))
theorem rel_d {W : World} {d : Ai.D} {v : Value} (h : Ai.Fits W [d] [v]) : Ai.VRel W (fun x => x < W.heap.size ∧ True) (fun _ => none) (fun _ => none) (.d d) v := .d _ _ (h.2 0 d v rfl rfl)
/-- WHAT THE WALK GIVES, FOR EVERY ARGUMENT. -/
theorem contract (H : Type) (enc : TypeId × Value → H) (W : World) (base : Nat) (args : Array Value) (ds gs : List (DataW H)) (before : List MemPlace)
    (hval : ∀ (j : Nat) t v, Tryz.f4.params[j]? = some t → args[j]? = some v → Value.okWide Tryz.prog W .any base t v)
    (hW : DataW.Whole enc Tryz.prog Tryz.f4.params.toList Rows.fnExactSwapAtSpec.vars false W args.toList ds gs before) :
    Calls Tryz.prog 4 args W fun e W' => ∃ v, e = .returned v ∧ Rows.fnExactSwapAtSpec.post enc Tryz.prog Tryz.f4 false true false false W args v W' := by
  have hW' := hW
  have hlt := hW.lt
  obtain ⟨p, q, hA0, hV, rfl, hfz, hnd⟩ := hW
  have hA : DataW.TrodAll enc Tryz.prog W 0 (fun _ => true) true Tryz.f4.params.toList args.toList ds p := hA0
  rw [Tryz.params4] at hA hval
  obtain ⟨v0, vs0, d0, ds0, p0, q0, hargs, rfl, rfl, h0, r0⟩ := trodAll_cons hA
  obtain ⟨v1, vs1, d1, ds1, p1, q1, rfl, rfl, rfl, h1, r1⟩ := trodAll_cons r0
  obtain ⟨v2, vs2, d2, ds2, p2, q2, rfl, rfl, rfl, h2, r2⟩ := trodAll_cons r1
  obtain ⟨rfl, rfl, rfl⟩ := trodAll_nil r2
  obtain rfl : args = #[v0, v1, v2] := by cases args; simp_all
  obtain ⟨rfl, rfl⟩ := trodVars_none hV
  obtain ⟨us0, rfl, hus0⟩ := okWide_struct Tryz.underlying24 (hval 0 24 v0 rfl rfl)
  obtain ⟨fuel0, hf0⟩ := id h0
  obtain ⟨x0, ⟨hx0, hy0, hz0⟩, fit0⟩ := Ai.rd_progC hf0
  have rel0 := rel_agg fit0
  obtain ⟨us1, rfl, hus1⟩ := okWide_struct Tryz.underlying32 (hval 1 32 v1 rfl rfl)
  obtain ⟨fuel1, hf1⟩ := id h1
  obtain ⟨x1, ⟨hx1, hy1⟩, fit1⟩ := Ai.rd_run hf1
  have rel1 := rel_agg fit1
  obtain ⟨n2, rfl⟩ := okWide_int Tryz.underlying3 (hval 2 3 v2 rfl rfl)
  obtain ⟨fuel2, hf2⟩ := id h2
  obtain ⟨x2, fit2⟩ := Ai.rd_int hf2
  have rel2 := rel_d fit2
  have hcall := Ai.lawSwap x0 hx0 hy0 hz0 x1 hx1 hy1 x2
  have hrel : Ai.ARel W (fun _ => True) [Ai.agg (Ai.encProg x0), Ai.agg (Ai.encRT x1), Ai.i64 x2] [(.agg us0 : Value), .agg us1, .int .i64 n2].toArray := by
    refine args_rel rfl fun i a v ha hv => ?_
    match i, ha, hv with
    | 0, ha, hv => cases ha; cases hv; exact rel0
    | 1, ha, hv => cases ha; cases hv; exact rel1
    | 2, ha, hv => cases ha; cases hv; exact rel2
    | i + 3, ha, hv => cases ha
  have hinv := hcall W (fun _ => True) _ trivial hrel
  have e3 : (callFunc 4 #[(.agg us0 : Value), .agg us1, .int .i64 n2]).run Tryz.prog W = .ok (.enter 4 #[(.agg us0 : Value), .agg us1, .int .i64 n2]) W := enters_of Tryz.func4 (by kernel_rfl) rfl _ W
  unfold Ai.Invokes at hinv
  rw [show Sem.run Ai.EE.P (callFunc 4 #[(.agg us0 : Value), .agg us1, .int .i64 n2]) W = _ from e3] at hinv
  refine Calls.mono (show Calls Tryz.prog 4 #[(.agg us0 : Value), .agg us1, .int .i64 n2] W _ from hinv) ?_
  rintro e W' ⟨v, rfl, r, rfl, hb, hr⟩
  have hvt : v = .bool true := by
    cases hr with
    | d _ _ hd => cases hd; rfl
  subst hvt
  have st0 : DataW.Trod enc Tryz.prog W' 0 (fun b => decide (b < W.heap.size)) true 24 (.agg us0) d0 p0 :=
    Below.trod laidOut readable24 lt24 h0 hb (fun y hy => hlt y (by simp [hy]))
  have st1 : DataW.Trod enc Tryz.prog W' 0 (fun b => decide (b < W.heap.size)) true 32 (.agg us1) d1 p1 :=
    Below.trod laidOut readable32 lt32 h1 hb (fun y hy => hlt y (by simp [hy]))
  have st2 : DataW.Trod enc Tryz.prog W' 0 (fun b => decide (b < W.heap.size)) true 3 (.int .i64 n2) d2 p2 :=
    Below.trod laidOut readable3 lt3 h2 hb (fun y hy => hlt y (by simp [hy]))
  refine ⟨_, rfl, [d0, d1, d2], [], _, [], p0 ++ (p1 ++ (p2 ++ [])), [], hW', ?_, ?_, ?_, hb.frame _, fun hh => by cases hh⟩
  · exact trodAll_mk1 (shut_bool Tryz.underlying4 _)
  · exact (trodAll_cons_mk st0 (trodAll_cons_mk st1 (trodAll_cons_mk st2 (show DataW.TrodAll enc Tryz.prog _ _ _ _ [] [] [] [] from rfl))))
  · rfl

/-- A WORLD FOR THE WITNESS: the settled one. -/
noncomputable def laidWorld (os : Os) : World := World.holding Tryz.prog os ⟨#[], #[], []⟩
theorem laid_met (os : Os) : laidMet Tryz.prog Rows.fnExactSwapAtRow.laid ((laidWorld os).forCall (fun _ _ => 0) ⟨#[], #[(.agg #[.int .i64 0, .int .i64 0, .int .i64 0, .slice none 0 0] : Value), .agg #[.int .i64 0, .slice none 0 0, .slice none 0 0, .slice none 0 0, .slice none 0 0, .slice none 0 0, .int .i64 0], .int .i64 0], []⟩).memory :=
  laidMet_of_run' 8 (by kernel_rfl) (by kernel_rfl)
theorem reads (os : Os) {H : Type} (enc : TypeId × Value → H) : ∃ places, DataW.whole enc Tryz.prog ((laidWorld os).forCall (fun _ _ => 0) ⟨#[], #[(.agg #[.int .i64 0, .int .i64 0, .int .i64 0, .slice none 0 0] : Value), .agg #[.int .i64 0, .slice none 0 0, .slice none 0 0, .slice none 0 0, .slice none 0 0, .slice none 0 0, .int .i64 0], .int .i64 0], []⟩).memory Tryz.f4.params.toList Rows.fnExactSwapAtSpec.vars false #[(.agg #[.int .i64 0, .int .i64 0, .int .i64 0, .slice none 0 0] : Value), .agg #[.int .i64 0, .slice none 0 0, .slice none 0 0, .slice none 0 0, .slice none 0 0, .slice none 0 0, .int .i64 0], .int .i64 0].toList 8 =
    some ([.agg [.lit (.int .i64 0), .lit (.int .i64 0), .lit (.int .i64 0), .nil], .agg [.lit (.int .i64 0), .nil, .nil, .agg [.nil, .nil, .nil, .lit (.int .i64 0)]], .lit (.int .i64 0)], [], places) :=
  ⟨[], by kernel_rfl⟩
/-- THE FIRST FORM's STEP. -/
theorem lifted (os : Os) (started : os.Started) (H : Type) (enc : TypeId × Value → H) (F : Stop.Interp) :
    ReturnsInHanded {} Tryz.checked os 4 .any ((OpenSpec.ofChange Rows.fnExactSwapAtSpec).preRow enc Tryz.prog Tryz.f4 Rows.fnExactSwapAtRow.domain false Rows.fnExactSwapAtRow.laid) (((OpenSpec.ofChange Rows.fnExactSwapAtSpec).at F).post enc Tryz.prog Tryz.f4 false true false false) := by
  obtain ⟨places, hx⟩ := reads os enc
  refine returnsInHanded_of_row (C := Tryz.checked) (s := OpenSpec.ofChange Rows.fnExactSwapAtSpec) own started (by kernel_rfl) Tryz.func4
    (witness_row_at (enc := enc) (C := Tryz.checked) false (laidWorld os) #[(.agg #[.int .i64 0, .int .i64 0, .int .i64 0, .slice none 0 0] : Value), .agg #[.int .i64 0, .slice none 0 0, .slice none 0 0, .slice none 0 0, .slice none 0 0, .slice none 0 0, .int .i64 0], .int .i64 0] rfl (by kernel_rfl) (by kernel_rfl) (by kernel_rfl)
      (OpenSpec.preRow_of_cond 8 hx (by kernel_rfl) (fun k hk => by cases hk) (by kernel_rfl) (laid_met os))) ?_
  intro W base args ds gs before hval hW _ _ _ _ _ _
  exact contract H enc W base args ds gs before hval hW

theorem k1 : laidOutB Tryz.prog = true := by kernel_rfl
theorem k2 : mapsRowed Tryz.prog = true := by kernel_rfl
theorem k3 : (Rows.fnExactSwapAtRow.inPlace == Tryz.prog.inPlace 4) = true := by kernel_rfl
theorem k4 : (Rows.fnExactSwapAtRow.unfollowed == Tryz.prog.unfollowed 4) = true := by kernel_rfl
theorem k5 : (Rows.fnExactSwapAtRow.recurses == Tryz.prog.recurses 4) = true := by kernel_rfl
theorem k6 : (Rows.fnExactSwapAtRow.named == Tryz.prog.varsNamed 4) = true := by kernel_rfl
theorem k7 : Tryz.prog.stopsHeard = true := by kernel_rfl
theorem k8 : Tryz.prog.mayEnter = true := by kernel_rfl
theorem k9 : (Rows.fnExactSwapAtRow.lifted == Tryz.prog.liftsFinal) = true := by kernel_rfl
/-- THE ROW's CLOSED FACTS, the great ones apart. -/
theorem closed : joinedFacts Tryz.prog 4 Tryz.f4 Rows.fnExactSwapAtSpec Rows.fnExactSwapAtRow = true := by
  unfold joinedFacts
  simp only [Bool.and_eq_true]
  repeat' apply And.intro
  · kernel_rfl
  · exact k1
  · exact k2
  · kernel_rfl
  · kernel_rfl
  · kernel_rfl
  · kernel_rfl
  · kernel_rfl
  · kernel_rfl
  · exact k3
  · exact k4
  · exact k5
  · exact k6
  · kernel_rfl
  · kernel_rfl
  · kernel_rfl
  · kernel_rfl
  · kernel_rfl
  · kernel_rfl
  · kernel_rfl
  · kernel_rfl
  · kernel_rfl
  · kernel_rfl
  · kernel_rfl
  · exact k7
  · exact k8
  · exact k9
  · kernel_rfl
  · kernel_rfl
  · kernel_rfl
  · kernel_rfl
  · kernel_rfl
theorem said : Rows.FnExactSwapAtSaid :=
  OpenClaim.holds_of_cond 4 Tryz.f4 rfl rfl rfl rfl rfl rfl rfl ⟨rfl, rfl, rfl, rfl, rfl⟩ rfl rfl rfl rfl rfl (by kernel_rfl) Tryz.func4 closed
    (of_decide_eq_true (by kernel_rfl)) (by unfold Func.isWrapper; first | (rw [if_pos (by decide +kernel)]; kernel_rfl) | (rw [if_neg (by decide +kernel)]; exact ⟨rfl, rfl⟩))
    (fun os started H enc _ F => by rw [OpenClaim.pre_eq_preRow]; exact lifted os started H enc F)
end Go.Proofs.YtbfdknfodpcdnaaGreat.fnExactSwapAt
