import Derived.Test.YtmcammamjbfkfaaGreatDoorAiCode
set_option maxHeartbeats 1000000
set_option linter.unusedVariables false
set_option linter.unusedSimpArgs false
namespace Ai
open Go Go.RowKit

def St.init (xs : List AV) : St := { τ := fun i => xs.getD i .junk, H := fun _ => none }

/-- The results at a function's end. -/
def outs (E : Env) (N : Nat) (s : St) : List ResultVar → Option (List AV)
  | [] => some []
  | .tmp t :: rs => (match outs E N s rs with | some vs => some (ev N s (.tmp t) :: vs) | none => none)
  | .cell t T :: rs => (match outs E N s rs, E.Θ T with
    | some vs, some ti => (match ldCells s (ev N s (.tmp t)) ti.sz with
      | some cs => (match mkVal ti cs with | some v => some (v :: vs) | none => none)
      | none => none)
    | _, _ => none)
def outV (E : Env) (N : Nat) (s : St) (rs : List ResultVar) : Option AV :=
  match outs E N s rs with
  | some [v] => (match v with
    | .ref o 0 n => (match s.H o with | some (.ds e sz els) => some (.uq e sz (els.take n)) | _ => none)
    | v => fz s v)
  | some vs => (match fzs s vs with | some xs => some (.tup xs) | none => none)
  | none => none
def retQ (E : Env) (fn : Func) (R : AV → Prop) : AX → St → Prop
  | .exit _, _ => False
  | _, s => match outV E fn.ntmps s fn.results.toList with | some r => kv r R | none => False

section
variable {E : Env} {N : Nat} {A : Nat → Prop} {w0 w w' : World} {m m' : Own} {s s' : St} {a : Act} {dst : Option Tmp} {k : St → Prop}

def rvGet (tmps : Array Value) : ResultVar → Sem Value
  | .tmp t => pure (tmps.getD t undef)
  | .cell p t => do loadVar t (← asAddr (tmps.getD p undef))
theorem results_eq (fn : Func) (tmps : Array Value) : results fn tmps = (do let vs ← fn.results.mapM (rvGet tmps); pure (if h : vs.size = 1 then vs[0] else .tuple vs)) := by
  unfold results
  congr 2

theorem outs_rel (h : SRel E N A w0 m s a w) : ∀ (rs : List ResultVar) (vs : List AV), outs E N s rs = some vs →
    ∃ us : List Value, (rs.mapM (rvGet a.tmps)).run E.P w = .ok us w ∧ vs.length = us.length ∧
      ∀ (i : Nat) (x : AV) (v : Value), vs[i]? = some x → us[i]? = some v → VRel w (okB A s.H m w) m s.H x v
  | [], vs, ho => by
    simp only [outs, Option.some.injEq] at ho
    subst ho
    exact ⟨[], by simp, rfl, by simp⟩
  | .tmp t :: rs, vs, ho => by
    simp only [outs] at ho
    split at ho
    · rename_i vs' hvs
      simp only [Option.some.injEq] at ho
      subst ho
      obtain ⟨us, h1, h2, h3⟩ := outs_rel h rs vs' hvs
      refine ⟨a.eval (.tmp t) :: us, ?_, by simp [h2], fun i x v hx hv => ?_⟩
      · rw [List.mapM_cons]
        simp only [rvGet, Sem.run_bind, Sem.run_pure, Result.andThen_ok, h1]
        rfl
      · cases i with
        | zero => simp at hx hv; subst hx; subst hv; exact h.ev _
        | succ i => exact h3 i x v (by simpa using hx) (by simpa using hv)
    · cases ho
  | .cell p T :: rs, vs, ho => by
    simp only [outs] at ho
    split at ho
    · rename_i vs' ti hvs hti
      split at ho
      · rename_i cs hcs
        split at ho
        · rename_i v0 hv0
          simp only [Option.some.injEq] at ho
          subst ho
          obtain ⟨us, h1, h2, h3⟩ := outs_rel h rs vs' hvs
          obtain ⟨b, off, hp, hl, hcl⟩ := ldCells_rel h (h.ev (.tmp p)) hcs
          obtain ⟨u, hu, hr⟩ := load_run (E := E) (w := w) hti b off hl hcl hv0
          refine ⟨u :: us, ?_, by simp [h2], fun i x v hx hv => ?_⟩
          · rw [List.mapM_cons]
            have hp2 : a.tmps.getD p undef = .pointer (some ⟨b, off, none⟩) := hp
            have hu2 : (loadVar T ⟨b, off, none⟩).run E.P w = .ok u w := by
              simpa [Instr.loadAt, Instr.sureAddr] using hu
            have hg : (rvGet a.tmps (.cell p T)).run E.P w = .ok u w := by
              simp only [rvGet, Sem.run_bind, hp2, asAddr, Sem.run_pure, Result.andThen_ok, hu2]
            simp only [Sem.run_bind, hg, Result.andThen_ok, h1, Sem.run_pure]
          · cases i with
            | zero => simp at hx hv; subst hx; subst hv; exact hr
            | succ i => exact h3 i x v (by simpa using hx) (by simpa using hv)
        · cases ho
      · cases ho
    · cases ho

theorem outV_rel (h : SRel E N A w0 m s a w) {B : Nat → Prop} (hB : ∀ b, A b → B b ∨ w0.heap.size ≤ b) (fn : Func) {r : AV} (ho : outV E N s fn.results.toList = some r) :
    ∃ v, (results fn a.tmps).run E.P w = .ok v w ∧ RRel w0 w B r v := by
  unfold outV at ho
  have hokall : ∀ b, okB A s.H m w b → b < w.heap.size ∧ (B b ∨ w0.heap.size ≤ b) := fun b hb => ⟨hb.1, hB b hb.2.2⟩
  have hown : true = true → ∀ o p, s.H o ≠ none → m o = some p → p.1 < w.heap.size ∧ (B p.1 ∨ w0.heap.size ≤ p.1) := fun _ o p ho hp => ⟨own_lt h ho hp, .inr (own_ge h ho hp)⟩
  have hres : ∀ us : List Value, (fn.results.toList.mapM (rvGet a.tmps)).run E.P w = .ok us w → (results fn a.tmps).run E.P w = .ok (if h : us.toArray.size = 1 then us.toArray[0] else .tuple us.toArray) w := by
    intro us hus
    rw [results_eq, Array.mapM_eq_mapM_toList]
    simp only [Sem.run_bind, Sem.run_map, Sem.run_pure, hus, Result.andThen_ok]
  split at ho
  · rename_i v hv
    obtain ⟨us, h1, h2, h3⟩ := outs_rel h _ _ hv
    have hl1 : us.length = 1 := by simpa using h2.symm
    obtain ⟨u, rfl⟩ : ∃ u, us = [u] := by
      match us, hl1 with
      | [u], _ => exact ⟨u, rfl⟩
    have hrel := h3 0 v u rfl rfl
    refine ⟨u, hres _ h1, ?_⟩
    split at ho
    · rename_i o n
      split at ho
      · rename_i e sz els hH
        simp only [Option.some.injEq] at ho
        subst ho
        cases hrel with
        | ref _ _ _ e3 sz3 els3 b full cap hH3 hn hmo hcap hnc =>
          rw [hH] at hH3
          injection hH3 with hH3
          injection hH3 with i1 i2 i3
          subst i1; subst i2; subst i3
          have hcf := hcap rfl
          subst hcf
          obtain ⟨hmn, _⟩ | ⟨b', full', cur, hm', hbb, hcur, hlen, hmax, hszc, hcells⟩ := h.objs o _ hH
          · rw [hmo] at hmn; cases hmn
          · rw [hmo] at hm'
            injection hm' with hm'
            injection hm' with e1 e2
            subst e1; subst e2
            have hll : (els.take n).length = n := by simp; omega
            refine .inr ⟨b, cap, cur, by rw [hll, Nat.zero_mul], hbb, hcur, by omega, hmax, hszc, fun j c hj => ?_⟩
            have hj2 : els[j]? = some c := by
              have hjn : j < n := by have := (List.getElem?_eq_some_iff.1 hj).1; omega
              rw [List.getElem?_take, if_pos hjn] at hj; exact hj
            refine ⟨(hcells j c hj2).1, fun i d hi => ?_⟩
            obtain ⟨u, hu, hr⟩ := (hcells j c hj2).2 i d hi
            refine ⟨u, hu, hr.mono fun x hx => ⟨⟨hokall x hx, ?_⟩, rfl⟩⟩
            intro hxb
            exact hx.2.1 o (by simp [hH]) _ hmo hxb.symm
        | ref0 _ e3 sz3 hH3 hmo =>
          rw [hH] at hH3
          injection hH3 with hH3
          injection hH3 with i1 i2 i3
          subst i3
          exact .inl ⟨by simp, rfl⟩
      · cases ho
    · have := fz_rep h hokall (B := true) hown (fun _ => rfl) hrel ho
      unfold RRel
      cases r <;> first | exact this | (cases this)
  · rename_i vs hne hv
    split at ho
    · rename_i xs hxs
      simp only [Option.some.injEq] at ho
      subst ho
      obtain ⟨us, h1, h2, h3⟩ := outs_rel h _ _ hv
      have hl1 : us.length ≠ 1 := by
        intro he
        rw [he] at h2
        match vs, h2 with
        | [v], _ => exact hne v rfl
      refine ⟨.tuple us.toArray, ?_, ?_⟩
      · rw [hres _ h1, dif_neg (by simpa using hl1)]
      · obtain ⟨g1, g2⟩ := fzs_get _ _ hxs
        refine .tup xs us.toArray (by simp; omega) fun i c u hc hu => ?_
        obtain ⟨c0, h4, h5⟩ := g2 i c hc
        exact fz_rep h hokall (B := true) hown (fun _ => rfl) (h3 i c0 u h4 (by simpa using hu)) h5
    · cases ho
  · cases ho

theorem calls_of_AW {f : FuncId} {fn : Func} {c : Code} {as : List AV} {R : AV → Prop} {vs : Array Value} (hf : E.P.funcs[f]? = some fn) (hb : fn.body = some c) (hN : Nat.ble as.length fn.ntmps = true)
    (h : AW E fn.ntmps c (retQ E fn R) (St.init as)) (hI : E.I w) (hr : ARel w A as vs) :
    Calls E.P f vs w fun e w' => ∃ v, e = .returned v ∧ ∃ r, R r ∧ Below w.heap.size w w' ∧ RRel w w' A r v := by
  have hN' : as.length ≤ fn.ntmps := Nat.le_of_ble_eq_true hN
  have hsz : vs.size ≤ fn.ntmps := by rw [← hr.1]; exact hN'
  refine calls_of_wp hf hb ?_
  have hS : SRel E fn.ntmps (fun b => A b ∨ w.heap.size ≤ b) w (fun _ => none) (St.init as) { tmps := vs ++ Array.replicate (fn.ntmps - vs.size) undef, defers := [] } w := by
    refine ⟨by simp; omega, rfl, Below.refl _ _, hI, fun i hi => ?_, fun o ob ho => by simp [St.init] at ho, fun o o' p p' ho => by simp [St.init] at ho, fun b hb => .inr hb⟩
    by_cases hlt : i < as.length
    · have h1 : as[i]? = some as[i] := List.getElem?_eq_getElem hlt
      have hlv : i < vs.size := by rw [← hr.1]; exact hlt
      have := hr.2 i as[i] vs[i] h1 (Array.getElem?_eq_getElem hlv)
      have e1 : (St.init as).τ i = as[i] := by simp [St.init, List.getD, h1]
      have e2 : (vs ++ Array.replicate (fn.ntmps - vs.size) undef).getD i undef = vs[i] := by
        rw [Array.getD_eq_getD_getElem?, Array.getElem?_append_left hlv, Array.getElem?_eq_getElem hlv]; rfl
      rw [e1]
      show VRel _ _ _ _ _ ((vs ++ Array.replicate (fn.ntmps - vs.size) undef).getD i undef)
      rw [e2]
      exact this.lift fun b hb => ⟨hb.1, fun o ho => by simp [St.init] at ho, .inl hb.2⟩
    · have e1 : (St.init as).τ i = .junk := by simp [St.init, List.getD, List.getElem?_eq_none (Nat.le_of_not_lt hlt)]
      rw [e1]; exact .junk _
  refine wp_mono (AW_sound c _ hS h) fun e a' w' hq => ?_
  cases e with
  | normal =>
    obtain ⟨m', s', hS', hk⟩ := hq
    refine ⟨hS'.defers, ?_⟩
    have hk2 : (match outV E fn.ntmps s' fn.results.toList with | some r => kv r R | none => False) := hk
    split at hk2
    · rename_i r ho
      rw [kv_eq] at hk2
      obtain ⟨v, hv, hrr⟩ := outV_rel hS' (B := A) (fun b hb => hb) fn ho
      exact ⟨v, hv, v, rfl, r, hk2, hS'.below, hrr⟩
    · exact hk2.elim
  | ret =>
    obtain ⟨m', s', hS', hk⟩ := hq
    refine ⟨hS'.defers, ?_⟩
    have hk2 : (match outV E fn.ntmps s' fn.results.toList with | some r => kv r R | none => False) := hk
    split at hk2
    · rename_i r ho
      rw [kv_eq] at hk2
      obtain ⟨v, hv, hrr⟩ := outV_rel hS' (B := A) (fun b hb => hb) fn ho
      exact ⟨v, hv, v, rfl, r, hk2, hS'.below, hrr⟩
    · exact hk2.elim
  | exit i =>
    obtain ⟨m', s', hS', hk⟩ := hq
    exact hk.elim
  | goto l => exact hq.elim
  | panic ch => exact hq.elim
  | outgrown => exact hq.elim

theorem callsTo_of_AW {f : FuncId} {fn : Func} {c : Code} {as : List AV} {R : AV → Prop} (hf : E.P.funcs[f]? = some fn) (hb : fn.body = some c) (hn : (fn.name == "runtime.NumGoroutine") = false) (hN : Nat.ble as.length fn.ntmps = true)
    (h : AW E fn.ntmps c (retQ E fn R) (St.init as)) : CallsTo E f as R := by
  intro w A vs hI hr
  have hrun : (callFunc f vs).run E.P w = .ok (.enter f vs) w := by
    simp only [callFunc, Sem.run_bind, run_program, Result.andThen_ok, hf, hn, hb]
    rfl
  unfold Invokes
  rw [hrun]
  exact (calls_of_AW hf hb hN h hI hr).mono fun e w' ⟨v, he, hp⟩ => ⟨v, he, hp⟩
end
end Ai
