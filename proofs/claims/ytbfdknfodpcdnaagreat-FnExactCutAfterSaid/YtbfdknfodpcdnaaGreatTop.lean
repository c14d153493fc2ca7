/-
  PROVED: the given program's law FnExactCutAfter returns true for every input, and its arguments read behind the call as1 they read before (FnExactCutAfterSaid).
  CONDITIONS: none but the row's own.
-/
import Derived.Test.YtbfdknfodpcdnaaGreatZF
import Derived.Test.YtbfdknfodpcdnaaGreatRows
import Derived.WalkKit
import Derived.ProofKit
import Derived.OpenShut
import Derived.Deep.DeepHandedRow
import Derived.Lib.LaidTab
set_option maxHeartbeats 8000000
set_option linter.unusedVariables false
set_option maxRecDepth 100000
namespace Go.Proofs.YtbfdknfodpcdnaaGreat.fnExactCutAfter
open Go.ChangeShapes Go.WideShapes Go.ChangeAt Go.RowKit

theorem own : ownKnob Tryz.prog.godebug = none := by kernel_rfl
theorem laidOut : laidOutB Tryz.prog = true := by kernel_rfl
theorem readable26 : Tryz.prog.readableRec 26 = true := by kernel_rfl
theorem lt26 : 26 < Tryz.prog.types.size := of_decide_eq_true (by kernel_rfl)
theorem readable24 : Tryz.prog.readableRec 24 = true := by kernel_rfl
theorem lt24 : 24 < Tryz.prog.types.size := of_decide_eq_true (by kernel_rfl)
theorem readable32 : Tryz.prog.readableRec 32 = true := by kernel_rfl
theorem lt32 : 32 < Tryz.prog.types.size := of_decide_eq_true (by kernel_rfl)
theorem args_rel {W : World} {al : List Ai.AV} {vs : List Value} (hl : al.length = vs.length) (h : ∀ (i : Nat) (a : Ai.AV) (v : Value), al[i]? = some a → vs[i]? = some v → Ai.VRel W (fun x => x < W.heap.size ∧ True) (fun _ => none) (fun _ => none) a v) : Ai.ARel W (fun _ => True) al vs.toArray :=
  ⟨by simpa using hl, fun i a v ha hv => h i a v ha (by simpa using hv)⟩
theorem rel_agg {W : World} {ds : List Ai.D} {us : Array Value} (h : Ai.Fits W ds us.toList) : Ai.VRel W (fun x => x < W.heap.size ∧ True) (fun _ => none) (fun _ => none) (Ai.agg ds) (.agg us) := by
  refine .agg _ us (by simpa using h.1) fun i c u hc hu => ?_
  rw [List.getElem?_map, Option.map_eq_some_iff] at hc
  obtain ⟨d, hd, rfl⟩ := hc
  exact .d _ _ (h.2 i d u hd (by simpa using hu))
theorem rel_d {W : World} {d : Ai.D} {v : Value} (h : Ai.Fits W [d] [v]) : Ai.VRel W (fun x => x < W.heap.size ∧ True) (fun _ => none) (fun _ => none) (.d d) v := .d _ _ (h.2 0 d v rfl rfl)
/-- WHAT THE WALK GIVES, FOR EVERY ARGUMENT. -/
theorem contract (H : Type) (enc : TypeId × Value → H) (W : World) (base : Nat) (args : Array Value) (ds gs : List (DataW H)) (before : List MemPlace)
    (hval : ∀ (j : Nat) t v, Tryz.f3.params[j]? = some t → args[j]? = some v → Value.okWide Tryz.prog W .any base t v)
    (hW : DataW.Whole enc Tryz.prog Tryz.f3.params.toList Rows.fnExactCutAfterSpec.vars false W args.toList ds gs before) :
    Calls Tryz.prog 3 args W fun e W' => ∃ v, e = .returned v ∧ Rows.fnExactCutAfterSpec.post enc Tryz.prog Tryz.f3 false true false false W args v W' := by
  have hW' := hW
  have hlt := hW.lt
  obtain ⟨p, q, hA0, hV, rfl, hfz, hnd⟩ := hW
  have hA : DataW.TrodAll enc Tryz.prog W 0 (fun _ => true) true Tryz.f3.params.toList args.toList ds p := hA0
  rw [Tryz.params3] at hA hval
  obtain ⟨v0, vs0, d0, ds0, p0, q0, hargs, rfl, rfl, h0, r0⟩ := trodAll_cons hA
  obtain ⟨v1, vs1, d1, ds1, p1, q1, rfl, rfl, rfl, h1, r1⟩ := trodAll_cons r0
  obtain ⟨v2, vs2, d2, ds2, p2, q2, rfl, rfl, rfl, h2, r2⟩ := trodAll_cons r1
  obtain ⟨rfl, rfl, rfl⟩ := trodAll_nil r2
  obtain rfl : args = #[v0, v1, v2] := by cases args; simp_all
  obtain ⟨rfl, rfl⟩ := trodVars_none hV
  obtain ⟨us0, rfl, hus0⟩ := okWide_struct Tryz.underlying24 (hval 0 24 v0 rfl rfl)
  obtain ⟨fuel0, hf0⟩ := id h0
  obtain ⟨x0, ⟨hx0, hy0, hz0⟩, fit0⟩ := Ai.rd_progC hf0
  have rel0 := rel_agg fit0
  obtain ⟨us1, rfl, hus1⟩ := okWide_struct Tryz.underlying32 (hval 1 32 v1 rfl rfl)
  obtain ⟨fuel1, hf1⟩ := id h1
  obtain ⟨x1, ⟨hx1, hy1⟩, fit1⟩ := Ai.rd_run hf1
  have rel1 := rel_agg fit1
  obtain ⟨a2, len2, cap2, rfl, hsl2⟩ := okWide_slice Tryz.underlying26 (hval 2 26 v2 rfl rfl)
  obtain ⟨fuel2, hf2⟩ := id h2
  obtain ⟨x2, hx2, fit2⟩ := Ai.rd_ints hf2
  have rel2 := rel_d fit2
  have hcall := Ai.lawCut x0 hx0 hy0 hz0 x1 hx1 hy1 x2 hx2
  have hrel : Ai.ARel W (fun _ => True) [Ai.agg (Ai.encProg x0), Ai.agg (Ai.encRT x1), Ai.sl (x2.map Ai.encInt)] [(.agg us0 : Value), .agg us1, .slice a2 len2 cap2].toArray := by
    refine args_rel rfl fun i a v ha hv => ?_
    match i, ha, hv with
    | 0, ha, hv => cases ha; cases hv; exact rel0
    | 1, ha, hv => cases ha; cases hv; exact rel1
    | 2, ha, hv => cases ha; cases hv; exact rel2
    | i + 3, ha, hv => cases ha
  have hinv := hcall W (fun _ => True) _ trivial hrel
  have e3 : (callFunc 3 #[(.agg us0 : Value), .agg us1, .slice a2 len2 cap2]).run Tryz.prog W = .ok (.enter 3 #[(.agg us0 : Value), .agg us1, .slice a2 len2 cap2]) W := enters_of Tryz.func3 (by kernel_rfl) rfl _ W
  unfold Ai.Invokes at hinv
  rw [show Sem.run Ai.EE.P (callFunc 3 #[(.agg us0 : Value), .agg us1, .slice a2 len2 cap2]) W = _ from e3] at hinv
  refine Calls.mono (show Calls Tryz.prog 3 #[(.agg us0 : Value), .agg us1, .slice a2 len2 cap2] W _ from hinv) ?_
  rintro e W' ⟨v, rfl, r, rfl, hb, hr⟩
  have hvt : v = .bool true := by
    cases hr with
    | d _ _ hd => cases hd; rfl
  subst hvt
  have st0 : DataW.Trod enc Tryz.prog W' 0 (fun b => decide (b < W.heap.size)) true 24 (.agg us0) d0 p0 :=
    Below.trod laidOut readable24 lt24 h0 hb (fun y hy => hlt y (by simp [hy]))
  have st1 : DataW.Trod enc Tryz.prog W' 0 (fun b => decide (b < W.heap.size)) true 32 (.agg us1) d1 p1 :=
    Below.trod laidOut readable32 lt32 h1 hb (fun y hy => hlt y (by simp [hy]))
  have st2 : DataW.Trod enc Tryz.prog W' 0 (fun b => decide (b < W.heap.size)) true 26 (.slice a2 len2 cap2) d2 p2 :=
    Below.trod laidOut readable26 lt26 h2 hb (fun y hy => hlt y (by simp [hy]))
  refine ⟨_, rfl, [d0, d1, d2], [], _, [], p0 ++ (p1 ++ (p2 ++ [])), [], hW', ?_, ?_, ?_, hb.frame _, fun hh => by cases hh⟩
  · exact trodAll_mk1 (shut_bool Tryz.underlying4 _)
  · exact (trodAll_cons_mk st0 (trodAll_cons_mk st1 (trodAll_cons_mk st2 (show DataW.TrodAll enc Tryz.prog _ _ _ _ [] [] [] [] from rfl))))
  · rfl

/-- A WORLD FOR THE WITNESS: the settled one. -/
noncomputable def laidWorld (os : Os) : World := World.holding Tryz.prog os ⟨#[], #[], []⟩
theorem laid_met (os : Os) : laidMet Tryz.prog Rows.fnExactCutAfterRow.laid ((laidWorld os).forCall (fun _ _ => 0) ⟨#[], #[(.agg #[.int .i64 0, .int .i64 0, .int .i64 0, .slice none 0 0] : Value), .agg #[.int .i64 0, .slice none 0 0, .slice none 0 0, .slice none 0 0, .slice none 0 0, .slice none 0 0, .int .i64 0], .slice none 0 0], []⟩).memory :=
  laidMet_of_run' 8 (by kernel_rfl) (by kernel_rfl)
theorem reads (os : Os) {H : Type} (enc : TypeId × Value → H) : ∃ places, DataW.whole enc Tryz.prog ((laidWorld os).forCall (fun _ _ => 0) ⟨#[], #[(.agg #[.int .i64 0, .int .i64 0, .int .i64 0, .slice none 0 0] : Value), .agg #[.int .i64 0, .slice none 0 0, .slice none 0 0, .slice none 0 0, .slice none 0 0, .slice none 0 0, .int .i64 0], .slice none 0 0], []⟩).memory Tryz.f3.params.toList Rows.fnExactCutAfterSpec.vars false #[(.agg #[.int .i64 0, .int .i64 0, .int .i64 0, .slice none 0 0] : Value), .agg #[.int .i64 0, .slice none 0 0, .slice none 0 0, .slice none 0 0, .slice none 0 0, .slice none 0 0, .int .i64 0], .slice none 0 0].toList 8 =
    some ([.agg [.lit (.int .i64 0), .lit (.int .i64 0), .lit (.int .i64 0), .nil], .agg [.lit (.int .i64 0), .nil, .nil, .agg [.nil, .nil, .nil, .lit (.int .i64 0)]], .nil], [], places) :=
  ⟨[], by kernel_rfl⟩
/-- THE FIRST FORM's STEP. -/
theorem lifted (os : Os) (started : os.Started) (H : Type) (enc : TypeId × Value → H) (F : Stop.Interp) :
    ReturnsInHanded {} Tryz.checked os 3 .any ((OpenSpec.ofChange Rows.fnExactCutAfterSpec).preRow enc Tryz.prog Tryz.f3 Rows.fnExactCutAfterRow.domain false Rows.fnExactCutAfterRow.laid) (((OpenSpec.ofChange Rows.fnExactCutAfterSpec).at F).post enc Tryz.prog Tryz.f3 false true false false) := by
  obtain ⟨places, hx⟩ := reads os enc
  refine returnsInHanded_of_row (C := Tryz.checked) (s := OpenSpec.ofChange Rows.fnExactCutAfterSpec) own started (by kernel_rfl) Tryz.func3
    (witness_row_at (enc := enc) (C := Tryz.checked) false (laidWorld os) #[(.agg #[.int .i64 0, .int .i64 0, .int .i64 0, .slice none 0 0] : Value), .agg #[.int .i64 0, .slice none 0 0, .slice none 0 0, .slice none 0 0, .slice none 0 0, .slice none 0 0, .int .i64 0], .slice none 0 0] rfl (by kernel_rfl) (by kernel_rfl) (by kernel_rfl)
      (OpenSpec.preRow_of_cond 8 hx (by kernel_rfl) (fun k hk => by cases hk) (by kernel_rfl) (laid_met os))) ?_
  intro W base args ds gs before hval hW _ _ _ _ _ _
  exact contract H enc W base args ds gs before hval hW

theorem k1 : laidOutB Tryz.prog = true := by kernel_rfl
theorem k2 : mapsRowed Tryz.prog = true := by kernel_rfl
theorem k3 : (Rows.fnExactCutAfterRow.inPlace == Tryz.prog.inPlace 3) = true := by kernel_rfl
theorem k4 : (Rows.fnExactCutAfterRow.unfollowed == Tryz.prog.unfollowed 3) = true := by kernel_rfl
theorem k5 : (Rows.fnExactCutAfterRow.recurses == Tryz.prog.recurses 3) = true := by kernel_rfl
theorem k6 : (Rows.fnExactCutAfterRow.named == Tryz.prog.varsNamed 3) = true := by kernel_rfl
theorem k7 : Tryz.prog.stopsHeard = true := by kernel_rfl
theorem k8 : Tryz.prog.mayEnter = true := by kernel_rfl
theorem k9 : (Rows.fnExactCutAfterRow.lifted == Tryz.prog.liftsFinal) = true := by kernel_rfl
/-- THE ROW's CLOSED FACTS, the great ones apart. -/
theorem closed : joinedFacts Tryz.prog 3 Tryz.f3 Rows.fnExactCutAfterSpec Rows.fnExactCutAfterRow = true := by
  unfold joinedFacts
  simp only [Bool.and_eq_true]
  repeat' apply And.intro
  · kernel_rfl
  · exact k1
  · exact k2
  · kernel_rfl
  · kernel_rfl
  · kernel_rfl
  · kernel_rfl
  · kernel_rfl
  · kernel_rfl
  · exact k3
  · exact k4
  · exact k5
  · exact k6
  · kernel_rfl
  · kernel_rfl
  · kernel_rfl
  · kernel_rfl
  · kernel_rfl
  · kernel_rfl
  · kernel_rfl
  · kernel_rfl
  · kernel_rfl
  · kernel_rfl
  · kernel_rfl
  · exact k7
  · exact k8
  · exact k9
  · kernel_rfl
  · kernel_rfl
  · kernel_rfl
  · kernel_rfl
  · kernel_rfl
theorem said : Rows.FnExactCutAfterSaid :=
  OpenClaim.holds_of_cond 3 Tryz.f3 rfl rfl rfl rfl rfl rfl rfl ⟨rfl, rfl, rfl, rfl, rfl⟩ rfl rfl rfl rfl rfl (by kernel_rfl) Tryz.func3 closed
    (of_decide_eq_true (by kernel_rfl)) (by unfold Func.isWrapper; first | (rw [if_pos (by decide +kernel)]; kernel_rfl) | (rw [if_neg (by decide +kernel)]; exact ⟨rfl, rfl⟩))
    (fun os started H enc _ F => by rw [OpenClaim.pre_eq_preRow]; exact lifted os started H enc F)
end Go.Proofs.YtbfdknfodpcdnaaGreat.fnExactCutAfter
