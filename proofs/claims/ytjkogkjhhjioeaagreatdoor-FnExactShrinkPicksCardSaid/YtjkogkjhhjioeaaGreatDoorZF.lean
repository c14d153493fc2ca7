import Derived.Test.YtjkogkjhhjioeaaGreatDoorZE
import Derived.WalkKit
set_option maxHeartbeats 8000000
set_option linter.unusedVariables false
set_option linter.unusedSimpArgs false
section
set_option maxRecDepth 100000
namespace Ai
open Go Go.Proofs Cyc
def GTh (p : ProgL) (t : Th) : Prop := ((t.st = 1 ∨ t.st = 2) ∧ t.cond = -1 ∧ t.lock = -1) ∨ ((t.st = 3 ∨ t.st = 4) ∧ 0 ≤ t.cond ∧ t.cond < p.conds ∧ 0 ≤ t.lock ∧ t.lock < p.locks)
structure GInv (p : ProgL) (s : StL) : Prop where
 ths : ∀ t ∈ s.ths, GTh p t
 ne : 1 ≤ s.ths.length
 fault : InR s.fault 0 4
theorem ginv_put {p : ProgL} {s : StL} {k : Nat} {t : Th} (h : GInv p s) (ht : GTh p t) : GInv p (s.put k t) := by
 refine ⟨fun u hu => ?_, by simpa [StL.put] using h.ne, h.fault⟩
 rcases List.mem_or_eq_of_mem_set hu with e | e
 ·exact h.ths u e
 ·subst e; exact ht
theorem fault_in (s : StL) (k : Nat) (o : OpL) : InR (faultOf s k o) 0 4 := by
 unfold faultOf InR
 simp only
 split
 ·omega
 split
 ·omega
 split
 ·omega
 split <;> omega
theorem ginv_do {p : ProgL} (hg : p.goodS) {s : StL} (hi : SInv p s) {k : Nat} (h : k < s.ths.length) {o : OpL} (hn : nextOp p s.ths[k] = some o) (e : Ev) (hG : GInv p s) (h1 : s.ths[k].st = 1) : GInv p (doL s k o e).1 := by
 have hT := hi.ths _ (List.getElem_mem h)
 have hgd : s.ths.getD k th0 = s.ths[k] := by simp [List.getD_eq_getElem?_getD, h]
 obtain ⟨⟨g1, g2⟩, hlt⟩ := row_good hg hT hn
 obtain ⟨c1, c2, c3, _⟩ := g1
 obtain ⟨a1, a2, a3, a4, a5, a6⟩ := g2
 have ht := hG.ths _ (List.getElem_mem h)
 generalize s.ths[k] = t at *
 unfold doL
 simp only [hgd]
 have hp : GTh p (popT t o) := ht
 have hpush : ∀ v, GTh p (pushT (popT t o) v) := fun v => ht
 have hpc : ∀ a, GTh p { popT t o with pc := a } := fun a => ht
 by_cases n1 : o.code = 1
 ·rw [if_pos n1]; exact ginv_put hG (hpush _)
 rw [if_neg n1]
 by_cases n2 : o.code = 2
 ·rw [if_pos n2]; exact ginv_put hG (hpush _)
 rw [if_neg n2]
 by_cases n3 : o.code = 3
 ·rw [if_pos n3]; exact ginv_put (s := { s with cells := _ }) ⟨hG.ths, hG.ne, hG.fault⟩ hp
 rw [if_neg n3]
 by_cases n10 : o.code = 10
 ·rw [if_pos n10]; exact ginv_put hG (hpc _)
 rw [if_neg n10]
 by_cases n11 : o.code = 11
 ·rw [if_pos n11]
  refine ginv_put hG ?_
  split
  ·exact hpc _
  ·exact hp
 rw [if_neg n11]
 by_cases n12 : o.code = 12
 ·rw [if_pos n12]; exact ginv_put (s := { s with owner := _ }) ⟨hG.ths, hG.ne, hG.fault⟩ hp
 rw [if_neg n12]
 by_cases n13 : o.code = 13
 ·rw [if_pos n13]; exact ginv_put (s := { s with owner := _ }) ⟨hG.ths, hG.ne, hG.fault⟩ hp
 rw [if_neg n13]
 by_cases n14 : o.code = 14
 ·rw [if_pos n14]
  refine ginv_put (s := { s with ths := _ }) ⟨fun u hu => ?_, by show 1 ≤ (s.ths ++ [newTh o.a]).length; simp, hG.fault⟩ (hpush _)
  rcases List.mem_append.1 hu with e | e
  ·exact hG.ths u e
  ·simp only [List.mem_cons, List.not_mem_nil, or_false] at e
   subst e; exact .inl ⟨.inl rfl, rfl, rfl⟩
 rw [if_neg n14]
 by_cases n15 : o.code = 15
 ·rw [if_pos n15]; exact ginv_put hG hp
 rw [if_neg n15]
 by_cases n16 : o.code = 16
 ·rw [if_pos n16]
  exact ginv_put (s := { s with owner := _ }) ⟨hG.ths, hG.ne, hG.fault⟩ (.inr ⟨.inl rfl, c2.1, (a5 n16).1, c3.1, (a5 n16).2⟩)
 rw [if_neg n16]
 by_cases n17 : o.code = 17
 ·rw [if_pos n17]
  cases hw : wakeIx s.ths o.a with
  |none => exact ginv_put hG hp
  |some j =>
   refine ginv_put (s := { s with ths := _ }) ⟨fun u hu => ?_, by simpa using hG.ne, hG.fault⟩ hp
   obtain ⟨i, hi2, rfl⟩ := List.mem_iff_getElem.1 hu
   have hil : i < s.ths.length := by simpa using hi2
   have hU := hG.ths _ (List.getElem_mem hil)
   rw [List.getElem_modify]
   split
   ·rename_i hji
    subst hji
    unfold wakeIx at hw
    rw [List.findIdx?_eq_some_iff_getElem] at hw
    obtain ⟨_, hpw, _⟩ := hw
    simp only [Bool.and_eq_true, beq_iff_eq] at hpw
    rcases hU with ⟨h9, _⟩ | ⟨_, h9⟩
    ·have := hpw.1; omega
    ·exact .inr ⟨.inr rfl, h9⟩
   ·exact hU
 rw [if_neg n17]
 exact ginv_put hG (hpush _)
theorem ginv_step {p : ProgL} (hg : p.goodS) {s : StL} (hi : SInv p s) {k : Nat} (h : k < s.ths.length) (hk : k ∈ enabledL p s) (hG : GInv p s) : GInv p (stepL p s k).1 := by
 have ht := hG.ths _ (List.getElem_mem h)
 have hgo := goes_st hk h
 have hgd : s.ths.getD k th0 = s.ths[k] := by simp [List.getD_eq_getElem?_getD, h]
 unfold stepL
 simp only [hgd]
 split
 ·exact ginv_put (s := { s with owner := _ }) ⟨hG.ths, hG.ne, hG.fault⟩ (.inl ⟨.inl rfl, rfl, rfl⟩)
 ·rename_i h4
  have h1 : s.ths[k].st = 1 := by omega
  split
  ·refine ginv_put hG (.inl ⟨.inr rfl, ?_⟩)
   rcases ht with ⟨_, h9⟩ | ⟨h9, _⟩
   ·exact h9
   ·omega
  ·rename_i o hn
   split
   ·exact ginv_do hg hi h hn _ hG h1
   ·exact ⟨hG.ths, hG.ne, fault_in s k o⟩
theorem ginv_new (p : ProgL) : GInv p (newL p) := by
 refine ⟨fun t ht => ?_, by simp [newL], by simp [newL, InR]⟩
 have : t = newTh 0 := by simpa [newL] using ht
 subst this
 exact .inl ⟨.inl rfl, rfl, rfl⟩
structure AInv (p : ProgL) (s : StL) : Prop where
 si : SInv p s
 fl : s.flt
 ow : OInv s
 gi : GInv p s
theorem en_lt {p : ProgL} {s : StL} {k : Nat} (hk : k ∈ enabledL p s) : k < s.ths.length := by have := (List.mem_filter.1 hk).1; simpa using this
theorem ainv_step {p : ProgL} (hg : p.goodS) (hv : p.flt) {s : StL} {k : Nat} (hk : k ∈ enabledL p s) (h : AInv p s) : AInv p (stepL p s k).1 :=
 ⟨inv_step hg h.si (en_lt hk), flt_step hv (en_lt hk) h.fl, oinv_step (en_lt hk) h.ow, ginv_step hg h.si (en_lt hk) hk h.gi⟩
theorem ainv_new {p : ProgL} (hg : p.goodS) : AInv p (newL p) := ⟨inv_new hg, flt_new p, oinv_new p, ginv_new p⟩
theorem do_lev (s : StL) (k : Nat) (o : OpL) (e : Ev) : s.ths.length ≤ (doL s k o e).1.ths.length ∧ (doL s k o e).2.th = e.th ∧ (doL s k o e).2.pc = e.pc := by
 have hput : ∀ (s : StL) (t : Th), (s.put k t).ths.length = s.ths.length := fun s t => by simp [StL.put]
 have hle : ∀ (s2 : StL) (t : Th), s.ths.length ≤ s2.ths.length → s.ths.length ≤ (s2.put k t).ths.length := fun s2 t h => by rw [hput]; exact h
 unfold doL
 simp only
 by_cases n1 : o.code = 1
 ·rw [if_pos n1]; exact ⟨hle _ _ (Nat.le_refl _), rfl, rfl⟩
 rw [if_neg n1]
 by_cases n2 : o.code = 2
 ·rw [if_pos n2]; exact ⟨hle _ _ (Nat.le_refl _), rfl, rfl⟩
 rw [if_neg n2]
 by_cases n3 : o.code = 3
 ·rw [if_pos n3]; exact ⟨hle _ _ (Nat.le_refl _), rfl, rfl⟩
 rw [if_neg n3]
 by_cases n10 : o.code = 10
 ·rw [if_pos n10]; exact ⟨hle _ _ (Nat.le_refl _), rfl, rfl⟩
 rw [if_neg n10]
 by_cases n11 : o.code = 11
 ·rw [if_pos n11]; exact ⟨hle _ _ (Nat.le_refl _), rfl, rfl⟩
 rw [if_neg n11]
 by_cases n12 : o.code = 12
 ·rw [if_pos n12]; exact ⟨hle _ _ (Nat.le_refl _), rfl, rfl⟩
 rw [if_neg n12]
 by_cases n13 : o.code = 13
 ·rw [if_pos n13]; exact ⟨hle _ _ (Nat.le_refl _), rfl, rfl⟩
 rw [if_neg n13]
 by_cases n14 : o.code = 14
 ·rw [if_pos n14]; exact ⟨hle _ _ (by show _ ≤ (s.ths ++ [newTh o.a]).length; simp), rfl, rfl⟩
 rw [if_neg n14]
 by_cases n15 : o.code = 15
 ·rw [if_pos n15]; exact ⟨hle _ _ (Nat.le_refl _), rfl, rfl⟩
 rw [if_neg n15]
 by_cases n16 : o.code = 16
 ·rw [if_pos n16]; exact ⟨hle _ _ (Nat.le_refl _), rfl, rfl⟩
 rw [if_neg n16]
 by_cases n17 : o.code = 17
 ·rw [if_pos n17]
  cases wakeIx s.ths o.a with
  |none => exact ⟨hle _ _ (Nat.le_refl _), rfl, rfl⟩
  |some j => exact ⟨hle _ _ (by show _ ≤ (s.ths.modify j _).length; simp), rfl, rfl⟩
 rw [if_neg n17]
 exact ⟨hle _ _ (Nat.le_refl _), rfl, rfl⟩
theorem step_len (p : ProgL) (s : StL) (k : Nat) : s.ths.length ≤ (stepL p s k).1.ths.length := by
 have hput : ∀ (s : StL) (t : Th), (s.put k t).ths.length = s.ths.length := fun s t => by simp [StL.put]
 unfold stepL
 simp only
 split
 ·rw [hput]; exact Nat.le_refl _
 ·split
  ·rw [hput]; exact Nat.le_refl _
  ·split
   ·exact (do_lev _ _ _ _).1
   ·exact Nat.le_refl _
theorem step_ev (p : ProgL) (s : StL) (k : Nat) : (stepL p s k).2.th = k ∧ (stepL p s k).2.pc = (s.ths.getD k th0).pc := by
 unfold stepL
 simp only
 split
 ·exact ⟨rfl, rfl⟩
 ·split
  ·exact ⟨rfl, rfl⟩
  ·split
   ·exact (do_lev _ _ _ _).2
   ·exact ⟨rfl, rfl⟩
structure TrOK (s : StL) (tr : List Ev) : Prop where
 ev : ∀ e ∈ tr, 0 ≤ e.th ∧ e.th < s.ths.length ∧ 0 ≤ e.pc ∧ e.pc ≤ 24
 ne : s.fault ≠ 0 → tr ≠ []
theorem tr_step {p : ProgL} (hg : p.goodS) {s : StL} {k : Nat} (hk : k ∈ enabledL p s) (h : AInv p s) {tr : List Ev} (ht : TrOK s tr) : TrOK (stepL p s k).1 (tr ++ [(stepL p s k).2]) := by
 have hl := en_lt hk
 have hgd : s.ths.getD k th0 = s.ths[k] := by simp [List.getD_eq_getElem?_getD, hl]
 have hT := h.si.ths _ (List.getElem_mem hl)
 have hr : s.ths[k].rt.toNat < p.rs.length := by have := hT.rt; omega
 have e24 : (p.rs.getD s.ths[k].rt.toNat []).length ≤ 24 := by
  rw [List.getD_eq_getElem?_getD, List.getElem?_eq_getElem hr]
  exact (hg.2 _ (List.getElem_mem hr)).2
 have h2 := step_len p s k
 refine ⟨fun e he => ?_, fun _ => by simp⟩
 rcases List.mem_append.1 he with e1 | e1
 ·have := ht.ev e e1
  omega
 ·simp only [List.mem_cons, List.not_mem_nil, or_false] at e1
  subst e1
  obtain ⟨e1, e2⟩ := step_ev p s k
  rw [e1, e2, hgd]
  have := hT.pc
  omega
structure RunT where
 c : Int
 tr : List Ev
 tk : List Int
 s : StL
noncomputable def runT (p : ProgL) (picks : List Int) (budget : Int) : Nat → StL → List Ev → List Int → RunT
 | 0, s, tr, tk => ⟨0, tr, tk, s⟩
 |n + 1, s, tr, tk =>
  if 0 < codeL p s tr.length budget then ⟨codeL p s tr.length budget, tr, tk, s⟩
  else
   let k := pickOf picks tk (enabledL p s).length
   let w := (enabledL p s).getD k.toNat 0
   runT p picks budget n (stepL p s w).1 (tr ++ [(stepL p s w).2]) (tk ++ [k])
def encRT (x : RunT) : List D := encRun x.c x.tr x.tk x.s
theorem runL_eq (p : ProgL) (picks : List Int) (budget : Int) : ∀ n s tr tk, runL p picks budget n s tr tk = encRT (runT p picks budget n s tr tk)
 | 0, s, tr, tk => rfl
 |n + 1, s, tr, tk => by
  unfold runL runT
  split
  ·rfl
  ·exact runL_eq p picks budget n _ _ _
structure REnd (p : ProgL) (budget : Int) (x : RunT) : Prop where
 inv : AInv p x.s
 tr : TrOK x.s x.tr
 code : x.c = codeL p x.s x.tr.length budget
 pos : 0 < x.c
 len : x.tr.length = x.tk.length
 le : (x.tr.length : Int) ≤ budget
 tk : ∀ i ∈ x.tk, 0 ≤ i ∧ i < 5
theorem pick_lt (p : ProgL) (s : StL) (picks tk : List Int) (hpk : ∀ i ∈ picks, 0 ≤ i) (h : 0 < (enabledL p s).length) : 0 ≤ pickOf picks tk (enabledL p s).length ∧ pickOf picks tk (enabledL p s).length < (enabledL p s).length := by
 unfold pickOf
 split
 ·rename_i h1
  have h2 : 0 ≤ picks.getD tk.length 0 := by
   rw [List.getD_eq_getElem?_getD, List.getElem?_eq_getElem h1]
   exact hpk _ (List.getElem_mem h1)
  exact ⟨Int.tmod_nonneg _ h2, Int.tmod_lt_of_pos _ (by omega)⟩
 ·omega
theorem en_ne {p : ProgL} {s : StL} {a b : Int} (h : ¬ 0 < codeL p s a b) : 0 < (enabledL p s).length ∧ a ≠ b := by
 have hen : enabledL p s ≠ [] := by
  intro he
  apply h
  unfold codeL
  by_cases hf : s.fault ≠ 0
  ·rw [if_pos hf]; decide
  ·rw [if_neg hf, if_pos he]; split <;> decide
 refine ⟨List.length_pos_iff.2 hen, fun he => h ?_⟩
 unfold codeL
 by_cases hf : s.fault ≠ 0
 ·rw [if_pos hf]; decide
 ·rw [if_neg hf, if_neg hen, if_pos he]; decide
theorem run_end {p : ProgL} (hg : p.goodS) (hv : p.flt) (picks : List Int) (budget : Int) (hpk : ∀ i ∈ picks, 0 ≤ i) : ∀ n s tr tk, AInv p s → TrOK s tr → tr.length = tk.length → (tr.length : Int) ≤ budget → budget.toNat + 1 - tr.length ≤ n → (∀ i ∈ tk, 0 ≤ i ∧ i < 5) → REnd p budget (runT p picks budget n s tr tk)
 | 0, s, tr, tk, hi, ht, hl, hb, hn, hk => by omega
 |n + 1, s, tr, tk, hi, ht, hl, hb, hn, hk => by
  unfold runT
  split
  ·rename_i h
   exact ⟨hi, ht, rfl, h, hl, hb, hk⟩
  ·rename_i h
   obtain ⟨h1, h2⟩ := en_ne h
   have h3 := pick_lt p s picks tk hpk h1
   have hkl : (pickOf picks tk (enabledL p s).length).toNat < (enabledL p s).length := by omega
   have hmem : (enabledL p s).getD (pickOf picks tk (enabledL p s).length).toNat 0 ∈ enabledL p s := by rw [List.getD_eq_getElem?_getD, List.getElem?_eq_getElem hkl]; exact List.getElem_mem hkl
   have h5 : (enabledL p s).length ≤ 5 := Nat.le_trans (enabledTo_le) hi.si.len
   refine run_end hg hv picks budget hpk n _ _ _ (ainv_step hg hv hmem hi) (tr_step hg hmem hi ht) (by simp; exact hl) (by simp; omega) (by simp; omega) fun i hx => ?_
   rcases List.mem_append.1 hx with e | e
   ·exact hk i e
   ·simp only [List.mem_cons, List.not_mem_nil, or_false] at e
    subst e
    omega
noncomputable def runOf (p : ProgL) (picks : List Int) (budget : Int) : RunT := runT p picks budget (budget.toNat + 1) (newL p) [] []
theorem runOf_end {p : ProgL} (hg : p.goodS) (hv : p.flt) (picks : List Int) (budget : Int) (hpk : ∀ i ∈ picks, 0 ≤ i) (hb : 0 ≤ budget) : REnd p budget (runOf p picks budget) :=
 run_end hg hv picks budget hpk _ _ _ _ (ainv_new hg) ⟨fun e he => (by cases he), fun h => absurd rfl h⟩ rfl hb (by simp) fun i hi => (by cases hi)
theorem l4Run_of (p : ProgL) (hp : p.wf) (hg : p.goodS) (picks : List Int) (budget : Int) (hpk : ∀ i ∈ picks, 0 ≤ i) (hl : picks.length ≤ 1048576) (hb : InR budget 0 1048576) :
  CallsTo EE 67 [agg (encProg p), sl (picks.map encInt), i64 budget] (· = agg (encRT (runOf p picks budget))) := by
 have := l4Run_good p hp hg picks budget hpk hl hb
 rwa [runL_eq] at this
theorem runPicks_of (p : ProgL) (hp : p.wf) (hg : p.goodS) (hv : p.flt) (picks : List Int) (budget : Int) (hpk : ∀ i ∈ picks, 0 ≤ i) (hl : picks.length ≤ 1048576) (hb : InR budget 0 1048576) :
  CallsTo EE 81 [agg (encProg p), sl (picks.map encInt), i64 budget] (· = agg (encRT (runOf p picks budget))) := by
 have := runPicks_good p hp hg hv picks budget hpk hl hb
 rwa [runL_eq] at this
end Ai
end
section
set_option maxRecDepth 100000
namespace Ai
open Go Go.Proofs Cyc
theorem wayS_ok {edges : List (Nat × Nat)} {to : Nat} (he : ∀ e ∈ edges, e.2 < 100) : ∀ (f i L : Nat) (ways : List (List Nat)) (seen : List Nat) (w : List Nat), (∀ w ∈ ways, w.length ≤ L ∧ ∀ x ∈ w, x < 100) → wayS edges to f i ways seen = some w → w.length ≤ L + f ∧ ∀ x ∈ w, x < 100
 | 0, _, _, _, _, _, _, h => by simp [wayS] at h
 |f + 1, i, L, ways, seen, w, hw, h => by
  unfold wayS at h
  split at h
  ·rename_i hi
   have hgw : ways.getD i [] ∈ ways := by rw [List.getD_eq_getElem?_getD, List.getElem?_eq_getElem hi]; exact List.getElem_mem hi
   split at h
   ·obtain ⟨h1, h2⟩ := wayS_ok he f (i + 1) L ways seen w hw h
    exact ⟨by omega, h2⟩
   ·rename_i e hf
    have he2 := he e (List.mem_of_find?_eq_some hf)
    split at h
    ·simp only [Option.some.injEq] at h
     subst h
     exact ⟨by have := (hw _ hgw).1; omega, (hw _ hgw).2⟩
    ·split at h
     ·obtain ⟨h1, h2⟩ := wayS_ok he f (i + 1) L ways seen w hw h
      exact ⟨by omega, h2⟩
     ·obtain ⟨h1, h2⟩ := wayS_ok he f (i + 1) (L + 1) _ _ w (fun v hv => by
       rcases List.mem_append.1 hv with e1 | e1
       ·have := hw v e1
        exact ⟨by omega, this.2⟩
       ·simp only [List.mem_cons, List.not_mem_nil, or_false] at e1
        subst e1
        refine ⟨by have := (hw _ hgw).1; rw [List.length_append]; show _ + 1 ≤ _; omega, fun x hx => ?_⟩
        rcases List.mem_append.1 hx with e2 | e2
        ·exact (hw _ hgw).2 x e2
        ·simp only [List.mem_cons, List.not_mem_nil, or_false] at e2
         subst e2; exact he2) h
      exact ⟨by omega, h2⟩
  ·simp only [Option.some.injEq] at h
   subst h
   simp
theorem cyc_ok {edges : List (Nat × Nat)} (hG : Graph edges) : (cycSOf edges).length ≤ 9 ∧ ∀ x ∈ cycSOf edges, x < 100 := by
 unfold cycSOf
 cases h : (List.range 100).findSome? (fun n => match cycS edges n with | some (x :: xs) => some (x :: xs) | _ => none) with
 |none => simp
 |some o =>
  obtain ⟨n, hn, ho⟩ := List.exists_of_findSome?_eq_some h
  have hn : n < 100 := by simpa using hn
  cases hc : cycS edges n with
  |none => rw [hc] at ho; cases ho
  |some l =>
   rw [hc] at ho
   cases l with
   |nil => cases ho
   |cons x xs =>
    simp only [Option.some.injEq] at ho
    subst ho
    exact wayS_ok (fun e he => by have := hG.small e he; omega) 8 0 1 _ _ _ (fun w hw => by
     simp only [List.mem_cons, List.not_mem_nil, or_false] at hw
     subst hw
     simpa using hn) hc
noncomputable def deadL (p : ProgL) (s : StL) : List Int := (cycSOf (edgesN p s)).map fun x => ((x : Nat) : Int)
theorem ainv_graph {p : ProgL} {s : StL} (h : AInv p s) : Graph (edgesN p s) := edges_graph h.ow h.gi.ne h.si.len
theorem dead_enc (p : ProgL) (s : StL) : (cycSOf (edgesN p s)).map encQ = (deadL p s).map encInt := by
 unfold deadL
 rw [List.map_map]
 rfl
theorem dead_picks {p : ProgL} {s : StL} (h : AInv p s) : Picks (deadL p s) := by
 obtain ⟨h1, h2⟩ := cyc_ok (ainv_graph h)
 refine ⟨by simp [deadL]; omega, fun x hx => ?_⟩
 obtain ⟨y, hy, rfl⟩ := List.mem_map.1 hx
 have := h2 y hy
 unfold InR; omega
theorem dead_txt {p : ProgL} {s : StL} : Lib.join ((cycSOf (edgesN p s)).map fun x => Lib.itoa ((x : Nat) : Int)) [44] = txt (deadL p s) := by
 unfold txt deadL
 rw [List.map_map]
 refine congrArg (fun l => Lib.join l [44]) (List.map_congr_left fun x _ => ?_)
 show Lib.itoa ((x : Nat) : Int) = Lib.decDigits ((x : Nat) : Int).toNat
 unfold Lib.itoa
 rw [if_neg (by omega)]
def ev00 : Ev := ⟨0, 0, 0, 0, 0⟩
def faultT (s : StL) (e : Ev) : List UInt8 := [102, 97, 117, 108, 116, 32] ++ Lib.decDigits s.fault.toNat ++ [32] ++ Lib.decDigits e.th.toNat ++ [32] ++ Lib.decDigits (s.ths.getD e.th.toNat th0).rt.toNat ++ [32] ++ Lib.decDigits e.pc.toNat
noncomputable def signL (p : ProgL) (x : RunT) : List UInt8 :=
 if x.c = 1 then [100, 111, 110, 101] else if x.c = 4 then [98, 117, 100, 103, 101, 116] else if x.c = 3 then [115, 116, 117, 99, 107, 32] ++ dashT (txt (deadL p x.s)) else faultT x.s (x.tr.getLastD ev00)
theorem code_cases {p : ProgL} {s : StL} {a b : Int} (h : 0 < codeL p s a b) : (codeL p s a b = 1 ∨ codeL p s a b = 3 ∨ codeL p s a b = 4) ∨ (codeL p s a b = 2 ∧ s.fault ≠ 0) := by
 unfold codeL at h ⊢
 by_cases hf : s.fault ≠ 0
 ·rw [if_pos hf]; exact .inr ⟨rfl, hf⟩
 ·rw [if_neg hf] at h ⊢
  split
  ·split <;> simp
  ·split
   ·simp
   ·rename_i h1 h2
    rw [if_neg h1, if_neg h2] at h
    exact absurd h (by decide)
end Ai
end
section
set_option maxRecDepth 100000
namespace Ai
open Go Go.Proofs
theorem arePicks_ok (xs : List Int) (most : Nat) (hx : xs.length ≤ 1048576) : CallsTo EE 80 [sl (xs.map encInt), i64 most] (· = bp (xs.length ≤ most ∧ AllIn xs 0 999)) := by
 refine callsTo_of_AW (fn := Tryz.f80) Tryz.func80 rfl (by kernel_rfl) rfl ?_
 conv => whnf
 refine kbi (fun h => ?_) (fun h => ?_)
 ·simp at h
  conv => whnf
  refine ocase (containsInt_ok xs hx 125 (fun n => ¬ InR n 0 999) (fun n _ => arePicks1_ok n)) (fun h2 => ?_) (fun h2 => ?_)
  ·conv => whnf
   refine bpf fun hm => ?_
   obtain ⟨x, hx1, hx2⟩ := h2
   exact hx2 (hm.2 x hx1)
  ·conv => whnf
   refine bpt ⟨by omega, fun x hx1 => ?_⟩
   exact Classical.byContradiction fun hb => h2 ⟨x, hx1, hb⟩
 ·simp at h
  conv => whnf
  exact bpf fun hm => by have := hm.1; omega
end Ai
end
section
set_option maxRecDepth 100000
namespace Ai
open Go Go.Proofs Cyc
theorem l1In_yes {n lo hi : Int} (h : InR n lo hi) : CallsTo EE 52 [i64 n, i64 lo, i64 hi] (· = bv true) := by
 have := l1In_ok n lo hi
 simp only [bp, pb_t h] at this
 exact this
theorem l1All_yes {xs : List Int} {lo hi : Int} (hx : xs.length ≤ 1048576) (h : AllIn xs lo hi) : CallsTo EE 75 [sl (xs.map encInt), i64 lo, i64 hi] (· = bv true) := by
 have := l1All_ok xs lo hi hx
 simp only [bp, pb_t h] at this
 exact this
theorem GoodProg_yes {p : ProgL} (hs : p.rs.length ≤ 1048576 ∧ ∀ x ∈ p.rs, x.length ≤ 1048576) (hv : p.flt) (h : p.goodS) : CallsTo EE 39 [agg (encProg p)] (· = bv true) := by
 have := GoodProgS_ok p hs hv
 simp only [bp, pb_t h] at this
 exact this
theorem l3Thread_ok (p : ProgL) (hp : p.headS) (t : Th) (hT : TInv p t) (hG : GTh p t) : CallsTo EE 214 [agg (encProg p), agg (encTh t)] (· = bv true) := by
 obtain ⟨a1, a2, a3, a4⟩ := hp
 unfold InR at a1 a2 a3 a4
 have hr := hT.rt
 have hpc := hT.pc
 have hst := hT.st
 have e4 : IntKind.i64.wrap (((p.rs.map encRow).length : Int) - 1) = (p.rs.length : Int) - 1 := by rw [List.length_map]; exact wrap_id (by omega) (by omega)
 have e2 : IntKind.i64.wrap (p.locks - 1) = p.locks - 1 := wrap_id (by omega) (by omega)
 have e3 : IntKind.i64.wrap (p.conds - 1) = p.conds - 1 := wrap_id (by omega) (by omega)
 refine callsTo_of_AW (fn := Tryz.f214) Tryz.func214 rfl (by kernel_rfl) rfl ?_
 conv => whnf
 refine ⟨_, l1In_yes (by rw [e4]; unfold InR; omega), ?_⟩
 rintro r rfl
 conv => whnf
 refine ⟨_, l1In_yes (by unfold InR; rcases hG with h | h <;> omega), ?_⟩
 rintro r rfl
 conv => whnf
 refine kbi (fun h => ?_) (fun _ => ?_)
 ·simp at h; omega
 conv => whnf
 refine ⟨by kernel_rfl, ?_⟩
 conv => whnf
 have hrl : t.rt.toNat < p.rs.length := by omega
 refine ⟨encRow p.rs[t.rt.toNat], ⟨hr.1, by simp [hrl], rfl⟩, ?_⟩
 conv => whnf
 have e5 : p.rs.getD t.rt.toNat [] = p.rs[t.rt.toNat] := by simp [List.getD_eq_getElem?_getD, hrl]
 rw [e5] at hpc
 refine ⟨_, l1In_yes (by unfold InR; rw [List.length_map]; omega), ?_⟩
 conv => whnf
 refine kbi (fun h3 => ?_) (fun h3 => ?_)
 ·have h3 : t.st = 3 := by simpa using h3
  conv => whnf
  refine ⟨_, l1In_yes (by rw [e3]; unfold InR; rcases hG with h | h <;> omega), ?_⟩
  rintro r rfl
  conv => whnf
  refine ⟨_, l1In_yes (by rw [e2]; unfold InR; rcases hG with h | h <;> omega), ?_⟩
  rintro r rfl
  conv => whnf
  try rfl
 ·have h3 : ¬ t.st = 3 := by simpa using h3
  conv => whnf
  refine kbi (fun h4 => ?_) (fun h4 => ?_)
  ·have h4 : t.st = 4 := by simpa using h4
   conv => whnf
   refine ⟨_, l1In_yes (by rw [e3]; unfold InR; rcases hG with h | h <;> omega), ?_⟩
   rintro r rfl
   conv => whnf
   refine ⟨_, l1In_yes (by rw [e2]; unfold InR; rcases hG with h | h <;> omega), ?_⟩
   rintro r rfl
   conv => whnf
   try rfl
  ·have h4 : ¬ t.st = 4 := by simpa using h4
   obtain ⟨_, hc, hl⟩ : (t.st = 1 ∨ t.st = 2) ∧ t.cond = -1 ∧ t.lock = -1 := by
    rcases hG with h | h
    ·exact h
    ·omega
   conv => whnf
   refine kbi (fun _ => ?_) (fun h => absurd (beq_iff_eq.2 hc) h)
   conv => whnf
   refine kbi (fun _ => ?_) (fun h => absurd (beq_iff_eq.2 hl) h)
   conv => whnf
   try rfl
theorem ainv_small {p : ProgL} (hg : p.goodS) {s : StL} (h : AInv p s) : s.small := ((runOK hg).small s h.si).1
theorem prog_len {p : ProgL} (h : p.goodS) : p.rs.length ≤ 1048576 ∧ ∀ x ∈ p.rs, x.length ≤ 1048576 := by
 obtain ⟨b1, b2, b3, b4⟩ := h.1
 exact ⟨by have := b4.2; omega, fun x hx => by have := (h.2 x hx).2; omega⟩
theorem l3Good_ok (p : ProgL) (hg : p.goodS) (s : StL) (h : AInv p s) : CallsTo EE 194 [agg (encProg p), agg (encSt s)] (· = bv true) := by
 have hi := h.si
 have hl5 := hi.len
 have hne := h.gi.ne
 have hsm := ainv_small hg h
 have hgt := h.gi.ths
 have hown := h.ow
 refine callsTo_of_AW (fn := Tryz.f194) Tryz.func194 rfl (by kernel_rfl) rfl ?_
 conv => whnf
 refine ⟨_, l1In_yes (by unfold InR; rw [List.length_map]; omega), ?_⟩
 rintro r rfl
 conv => whnf
 refine kbi (fun h1 => absurd (show ((s.cells.map encF).length : Int) = p.cells by rw [List.length_map]; exact hi.cells) (by simpa using h1)) (fun _ => ?_)
 conv => whnf
 refine kbi (fun h1 => absurd (show ((s.owner.map encInt).length : Int) = p.locks by rw [List.length_map]; exact hi.owner) (by simpa using h1)) (fun _ => ?_)
 conv => whnf
 refine ⟨_, l1In_yes h.gi.fault, ?_⟩
 rintro r rfl
 conv => whnf
 refine aloop (fun k : Nat => [(2, .ptr (.n 2) 0), (3, .ptr (.n 3) 0), (35, sl (s.ths.map encTh)), (36, i64 (s.ths.map encTh).length), (37, i64 k)])
  (fun k => [(.n 2, .vs 31 ((encProg p).map .d)), (.n 3, .vs 76 ((encSt s).map .d))]) (fun k => s.ths.length - k) (fun k => k ≤ s.ths.length) 0
  Weak.refl ⟨rfl, rfl, rfl, rfl, rfl, trivial⟩ ⟨rfl, rfl, trivial⟩ (Nat.zero_le _) ?_
 intro k τ H hk
 have hk : k ≤ s.ths.length := hk
 conv => whnf
 refine kbi (fun h => ?_) (fun h => ?_)
 ·have hlt := lt_map h
  conv => whnf
  refine ⟨encTh s.ths[k], map_get encTh hlt rfl, ?_⟩
  conv => whnf
  refine ⟨_, l3Thread_ok p hg.1 s.ths[k] (hi.ths _ (List.getElem_mem hlt)) (hgt _ (List.getElem_mem hlt)), ?_⟩
  rintro r rfl
  conv => whnf
  exact ⟨k + 1, by show k + 1 ≤ s.ths.length; omega, by show s.ths.length - (k + 1) < s.ths.length - k; omega, ⟨rfl, rfl, rfl, rfl, next_i64 hlt (by omega), trivial⟩, ⟨rfl, rfl, trivial⟩⟩
 ·conv => whnf
  have e1 : IntKind.i64.wrap (((s.ths.map encTh).length : Int) - 1) = (s.ths.length : Int) - 1 := by rw [List.length_map]; exact wrap_id (by omega) (by omega)
  rw [e1]
  refine ⟨_, l1All_yes hsm.2.2.2 (fun x hx => by have := hown x hx; unfold InR; omega), ?_⟩
  rintro r rfl
  conv => whnf
  try rfl
theorem GoodState_ok (p : ProgL) (hg : p.goodS) (hv : p.flt) (s : StL) (h : AInv p s) : CallsTo EE 161 [agg (encProg p), agg (encSt s)] (· = bv true) := by
 refine callsTo_of_AW (fn := Tryz.f161) Tryz.func161 rfl (by kernel_rfl) rfl ?_
 conv => whnf
 refine ⟨_, GoodProg_yes (prog_len hg) hv hg, ?_⟩
 rintro r rfl
 conv => whnf
 refine ⟨_, l3Good_ok p hg s h, ?_⟩
 rintro r rfl
 conv => whnf
 try rfl
end Ai
end
section
set_option maxRecDepth 100000
namespace Ai
open Go Go.Proofs Cyc
theorem ainv_seen {p : ProgL} (hg : p.goodS) {s : StL} (h : AInv p s) : ∀ t ∈ s.ths, t.seen p s := (runOK hg).seen s h.si
theorem WaitsFor_ok (p : ProgL) (hp : p.wf) (hg : p.goodS) (hv : p.flt) (s : StL) (h : AInv p s) : CallsTo EE 128 [agg (encProg p), agg (encSt s)] (· = .tup [sl ((edgesL p s).map encE), bv true]) := by
 have hs := ainv_small hg h
 have hn := h.si.len
 have hse := ainv_seen hg h
 refine callsTo_of_AW (fn := Tryz.f128) Tryz.func128 rfl (by kernel_rfl) rfl ?_
 conv => whnf
 refine ⟨_, GoodState_ok p hg hv s h, ?_⟩
 rintro r rfl
 conv => whnf
 refine aloop (fun k : Nat => [(2, .ptr (.n 2) 0), (3, .ptr (.n 3) 0), (6, .ref (.n 6) 0 (edgesTo p s k).length), (15, sl (s.ths.map encTh)), (16, i64 (s.ths.map encTh).length), (17, i64 k)])
  (fun k => [(.n 2, .vs 31 ((encProg p).map .d)), (.n 3, .vs 76 ((encSt s).map .d)), (.n 6, .ds 25 1 ((edgesTo p s k).map encE))]) (fun k => s.ths.length - k) (fun k => k ≤ s.ths.length) 0
  (weak_nil 6 (.n 6) 25 1 rfl) ⟨rfl, rfl, rfl, rfl, rfl, rfl, trivial⟩ ⟨rfl, rfl, rfl, trivial⟩ (Nat.zero_le _) ?_
 intro k τ H hk
 have hk : k ≤ s.ths.length := hk
 conv => whnf
 refine kbi (fun h => ?_) (fun h => ?_)
 ·have hlt := lt_map h
  conv => whnf
  refine ⟨encTh s.ths[k], map_get encTh hlt rfl, ?_⟩
  conv => whnf
  have hgd : s.ths.getD k th0 = s.ths[k] := by simp [List.getD_eq_getElem?_getD, hlt]
  have hle : (edgesTo p s k).length ≤ k := edgesTo_le
  refine ⟨_, l3Blocks_ok toIndexS idxRange p s s.ths[k] hp (hs.2.1 _ (List.getElem_mem hlt)) (hse _ (List.getElem_mem hlt)), ?_⟩
  rintro r rfl
  conv => whnf
  refine kbi (fun hb => ?_) (fun hb => ?_)
  ·have hb : 0 ≤ blocksOf p s s.ths[k] := by simpa using hb
   have hsk : edgesTo p s (k + 1) = edgesTo p s k ++ [(k, blocksOf p s s.ths[k])] := by rw [edgesTo_succ, hgd, if_pos hb]
   conv => whnf
   refine .inl ?_
   conv => whnf
   refine ⟨⟨rfl, by show ((edgesTo p s k).length + 1) * 24 ≤ _; omega, by show (edgesTo p s k).length + 1 ≤ _; omega⟩, ?_⟩
   conv => whnf
   refine ⟨k + 1, by show k + 1 ≤ s.ths.length; omega, by show s.ths.length - (k + 1) < s.ths.length - k; omega, ⟨rfl, rfl, ?_, rfl, rfl, next_i64 hlt (by omega), trivial⟩, ⟨rfl, rfl, ?_, trivial⟩⟩
   ·rw [hsk]
    show AV.ref (.n 6) 0 ((edgesTo p s k).length + 1) = _
    simp
   ·rw [hsk]
    show some (Ob.ds 25 1 (((edgesTo p s k).map encE).take (edgesTo p s k).length ++ [encE (k, blocksOf p s s.ths[k])])) = _
    rw [List.take_of_length_le (by simp)]
    simp
  ·have hb : ¬ 0 ≤ blocksOf p s s.ths[k] := by simpa using hb
   conv => whnf
   have hsk : edgesTo p s (k + 1) = edgesTo p s k := by rw [edgesTo_succ, hgd, if_neg hb]; simp
   refine ⟨k + 1, by show k + 1 ≤ s.ths.length; omega, by show s.ths.length - (k + 1) < s.ths.length - k; omega, ⟨rfl, rfl, ?_, rfl, rfl, next_i64 hlt (by omega), trivial⟩, ⟨rfl, rfl, ?_, trivial⟩⟩
   ·rw [hsk]; rfl
   ·rw [hsk]; rfl
 ·have hge : s.ths.length ≤ k := by simpa using h
  have hkk : k = s.ths.length := by omega
  subst hkk
  conv => whnf
  refine .inl ?_
  conv => whnf
  have e : (((edgesTo p s s.ths.length).map encE).drop 0).take (edgesTo p s s.ths.length).length = (edgesL p s).map encE := by rw [List.drop_zero, List.take_of_length_le (by simp)]; rfl
  first | exact congrArg (fun x => AV.tup [sl x, bv true]) e | (rw [← e]; rfl) | trace_state
theorem l4Dead_ok (p : ProgL) (hp : p.wf) (hg : p.goodS) (hv : p.flt) (c : Int) (tr : List Ev) (tk : List Int) (s : StL) (h : AInv p s) : CallsTo EE 89 [agg (encProg p), agg (encRun c tr tk s)] (· = sl ((deadL p s).map encInt)) := by
 refine callsTo_of_AW (fn := Tryz.f89) Tryz.func89 rfl (by kernel_rfl) rfl ?_
 conv => whnf
 refine ⟨_, WaitsFor_ok p hp hg hv s h, ?_⟩
 rintro r rfl
 conv => whnf
 rw [edges_enc]
 refine ⟨_, l3CycleG_ok (edgesN p s) (ainv_graph h), ?_⟩
 rintro r rfl
 conv => whnf
 rw [dead_enc]
theorem last_at {tr : List Ev} (h : tr ≠ []) (hl : (tr.length : Int) ≤ 1048576) : 0 ≤ IntKind.i64.wrap (((tr.map encEv).length : Int) - 1) ∧ (tr.map encEv)[(IntKind.i64.wrap (((tr.map encEv).length : Int) - 1)).toNat]? = some (encEv (tr.getLastD ev00)) ∧ tr.getLastD ev00 ∈ tr := by
 have hp : 0 < tr.length := List.length_pos_iff.2 h
 have e : IntKind.i64.wrap (((tr.map encEv).length : Int) - 1) = ((tr.length - 1 : Nat) : Int) := by
  rw [List.length_map, wrap_id (by omega) (by omega)]; omega
 have e2 : tr.getLastD ev00 = tr[tr.length - 1] := by
  rw [List.getLastD_eq_getLast?, List.getLast?_eq_getElem?, List.getElem?_eq_getElem (by omega)]; rfl
 rw [e, e2]
 refine ⟨by omega, ?_, List.getElem_mem _⟩
 rw [Int.toNat_natCast, List.getElem?_map, List.getElem?_eq_getElem (by omega)]; rfl
theorem dec_ne (n : Nat) : Lib.decDigits n ≠ [] := by
 rw [Lib.decDigits]
 split <;> simp
theorem txt_ne {l : List Int} (h : l ≠ []) : txt l ≠ [] := by
 cases l with
 |nil => exact absurd rfl h
 |cons x xs =>
  unfold txt
  rw [List.map_cons, Lib.join_cons]
  intro e
  exact dec_ne _ (List.append_eq_nil_iff.1 e).1
theorem l4Sign_ok (p : ProgL) (hp : p.wf) (hg : p.goodS) (hv : p.flt) (budget : Int) (x : RunT) (h : REnd p budget x) (hb : budget ≤ 1048576) : CallsTo EE 54 [agg (encProg p), agg (encRT x)] (· = sv (signL p x)) := by
 obtain ⟨c, tr, tk, s⟩ := x
 have hcode : c = codeL p s tr.length budget := h.code
 have hpos : 0 < c := h.pos
 have hcs := code_cases (show 0 < codeL p s tr.length budget by rw [← hcode]; exact hpos)
 rw [← hcode] at hcs
 have hi : AInv p s := h.inv
 have hT : TrOK s tr := h.tr
 have hle : (tr.length : Int) ≤ budget := h.le
 unfold signL
 show CallsTo EE 54 [agg (encProg p), agg (encRun c tr tk s)] (· = sv (if c = 1 then [100, 111, 110, 101] else if c = 4 then [98, 117, 100, 103, 101, 116] else if c = 3 then [115, 116, 117, 99, 107, 32] ++ dashT (txt (deadL p s)) else faultT s (tr.getLastD ev00)))
 refine callsTo_of_AW (fn := Tryz.f54) Tryz.func54 rfl (by kernel_rfl) rfl ?_
 conv => whnf
 refine kbi (fun h1 => ?_) (fun h1 => ?_)
 ·have h1 : c = 1 := by simpa using h1
  rw [if_pos h1]
  conv => whnf
  try rfl
 have h1 : ¬ c = 1 := by simpa using h1
 rw [if_neg h1]
 conv => whnf
 refine kbi (fun h4 => ?_) (fun h4 => ?_)
 ·have h4 : c = 4 := by simpa using h4
  rw [if_pos h4]
  conv => whnf
  try rfl
 have h4 : ¬ c = 4 := by simpa using h4
 rw [if_neg h4]
 conv => whnf
 refine kbi (fun h2 => ?_) (fun h2 => ?_)
 ·have h2 : c = 2 := by simpa using h2
  rw [if_neg (by omega)]
  conv => whnf
  have hf : s.fault ≠ 0 := by
   rcases hcs with h | h
   ·omega
   ·exact h.2
  have hne := hT.ne hf
  have hpt : 0 < tr.length := List.length_pos_iff.2 hne
  obtain ⟨e1, e2, e3⟩ := last_at hne (by omega)
  have hev := hT.ev _ e3
  refine ⟨encEv (tr.getLastD ev00), ⟨e1, e2, rfl⟩, ?_⟩
  generalize tr.getLastD ev00 = e at *
  conv => whnf
  refine ⟨by kernel_rfl, ?_⟩
  conv => whnf
  have hfa := hi.gi.fault
  unfold InR at hfa
  refine ⟨_, l1Num_ok s.fault hfa.1 (by omega), ?_⟩
  conv => whnf
  have hev1 : e.th.toNat < s.ths.length := by omega
  have hrt := (hi.si.ths _ (List.getElem_mem hev1)).rt
  have hn4 := hg.1.2.2.2
  unfold InR at hn4
  have d1 : (Lib.decDigits s.fault.toNat).length ≤ 1 := digits_len _ 1 (by omega) (by omega)
  have hl5 := hi.si.len
  have d2 : (Lib.decDigits e.th.toNat).length ≤ 1 := digits_len _ 1 (by omega) (by omega)
  have d3 : (Lib.decDigits s.ths[e.th.toNat].rt.toNat).length ≤ 1 := digits_len _ 1 (by omega) (by omega)
  have d4 : (Lib.decDigits e.pc.toNat).length ≤ 2 := digits_len _ 2 (by omega) (by omega)
  have hgd : s.ths.getD e.th.toNat th0 = s.ths[e.th.toNat] := by simp [List.getD_eq_getElem?_getD, hev1]
  refine ⟨by simp; omega, ?_⟩
  conv => whnf
  refine ⟨by simp; omega, ?_⟩
  conv => whnf
  refine ⟨_, l1Num_ok e.th hev.1 (by omega), ?_⟩
  conv => whnf
  refine ⟨by simp; omega, ?_⟩
  conv => whnf
  refine ⟨by simp; omega, ?_⟩
  conv => whnf
  refine ⟨encTh s.ths[e.th.toNat], ⟨hev.1, by simp [hev1], rfl⟩, ?_⟩
  conv => whnf
  refine ⟨_, l1Num_ok s.ths[e.th.toNat].rt hrt.1 (by omega), ?_⟩
  conv => whnf
  refine ⟨by simp; omega, ?_⟩
  conv => whnf
  refine ⟨by simp; omega, ?_⟩
  conv => whnf
  refine ⟨_, l1Num_ok e.pc hev.2.2.1 (by omega), ?_⟩
  conv => whnf
  refine ⟨by simp; omega, ?_⟩
  conv => whnf
  unfold faultT
  rw [hgd]
  try rfl
 ·have h2 : ¬ c = 2 := by simpa using h2
  rw [if_pos (by omega)]
  conv => whnf
  refine ⟨_, l4Dead_ok p hp hg hv c tr tk s hi, ?_⟩
  rintro r rfl
  conv => whnf
  have hd := dead_picks hi
  refine kbi (fun h3 => ?_) (fun h3 => ?_)
  ·have h3 : 0 < (deadL p s).length := by simpa using h3
   conv => whnf
   refine ⟨_, l4List_ok (deadL p s) hd, ?_⟩
   rintro r rfl
   conv => whnf
   have htl := txt_len (deadL p s) hd.2 (deadL p s).length (Nat.le_refl _)
   rw [List.take_length] at htl
   have h200 := hd.1
   refine ⟨by show 6 + _ ≤ _; omega, ?_⟩
   conv => whnf
   have hne : txt (deadL p s) ≠ [] := txt_ne (by intro e; rw [e] at h3; simp at h3)
   unfold dashT
   rw [if_neg hne]
   try rfl
  ·have h3 : deadL p s = [] := by
    have : ¬ 0 < (deadL p s).length := by simpa using h3
    exact List.length_eq_zero_iff.1 (by omega)
   conv => whnf
   rw [h3]
   try rfl
end Ai
end
section
set_option maxRecDepth 100000
namespace Ai
open Go Go.Proofs Cyc
def fNums (s : StL) (e : Ev) : List Int := [s.fault, e.th, (s.ths.getD e.th.toNat th0).rt, e.pc]
def fText (s : StL) (e : Ev) (k : Nat) : List UInt8 := [102, 97, 117, 108, 116] ++ (((fNums s e).take k).map fun n => 32 :: Lib.decDigits n.toNat).flatten
theorem fText_succ (s : StL) (e : Ev) (k : Nat) (h : k < (fNums s e).length) : fText s e (k + 1) = fText s e k ++ 32 :: Lib.decDigits ((fNums s e)[k]).toNat := by
 unfold fText
 rw [List.take_add_one, List.getElem?_eq_getElem h]
 simp only [Option.toList, List.map_append, List.flatten_append, List.map_cons, List.map_nil, List.flatten_cons, List.flatten_nil, List.append_nil, List.append_assoc]
theorem fText_end (s : StL) (e : Ev) : fText s e 4 = faultT s e := by
 simp [fText, fNums, faultT]
theorem fText_len (s : StL) (e : Ev) (h : ∀ n ∈ fNums s e, InR n 0 999) : ∀ k, k ≤ 4 → (fText s e k).length ≤ 5 + 4 * k
 | 0, _ => by simp [fText]
 |k + 1, hk => by
  have hl : k < (fNums s e).length := by show k < 4; omega
  have h1 := fText_len s e h k (by omega)
  have h2 := h _ (List.getElem_mem hl)
  unfold InR at h2
  have d1 : (Lib.decDigits ((fNums s e)[k]).toNat).length ≤ 3 := digits_len _ 3 (by omega) (by omega)
  rw [fText_succ s e k hl, List.length_append, List.length_cons]
  omega
theorem itoaL_nat {n : Int} (h : 0 ≤ n) : Lib.itoa n = Lib.decDigits n.toNat := by unfold Lib.itoa; rw [if_neg (by omega)]
theorem signOf_fault (p : ProgL) (hg : p.goodS) (s : StL) (tr : List Ev) (tk : List Int) (hi : AInv p s) (hT : TrOK s tr) (hne : tr ≠ []) (hl : (tr.length : Int) ≤ 1048576) : CallsTo EE 59 [agg (encProg p), agg (encRun 2 tr tk s)] (· = sv (faultT s (tr.getLastD ev00))) := by
 obtain ⟨e1, e2, e3⟩ := last_at hne (by omega)
 have hev := hT.ev _ e3
 refine callsTo_of_AW (fn := Tryz.f59) Tryz.func59 rfl (by kernel_rfl) rfl ?_
 conv => whnf
 refine kbi (fun h => absurd h (by decide)) (fun _ => ?_)
 conv => whnf
 refine kbi (fun h => absurd h (by decide)) (fun _ => ?_)
 conv => whnf
 refine kbi (fun h => absurd h (by decide)) (fun _ => ?_)
 conv => whnf
 refine ⟨encEv (tr.getLastD ev00), ⟨e1, e2, rfl⟩, ?_⟩
 generalize tr.getLastD ev00 = e at *
 conv => whnf
 refine ⟨by kernel_rfl, ?_⟩
 conv => whnf
 have hev1 : e.th.toNat < s.ths.length := by omega
 refine ⟨encTh s.ths[e.th.toNat], ⟨hev.1, by simp [hev1], rfl⟩, ?_⟩
 conv => whnf
 have hrt := (hi.si.ths _ (List.getElem_mem hev1)).rt
 have hgd : s.ths.getD e.th.toNat th0 = s.ths[e.th.toNat] := by simp [List.getD_eq_getElem?_getD, hev1]
 have hl5 := hi.si.len
 have hn4 := hg.1.2.2.2
 have hfa := hi.gi.fault
 unfold InR at hn4 hfa
 have hin : ∀ n ∈ fNums s e, InR n 0 999 := by
  intro n hn
  unfold fNums at hn
  rw [hgd] at hn
  simp only [List.mem_cons, List.not_mem_nil, or_false] at hn
  unfold InR
  rcases hn with h | h | h | h <;> omega
 refine aloop (fun k : Nat => [(8, sv (fText s e k)), (53, sl ((fNums s e).map encInt)), (54, i64 4), (55, i64 k)]) (fun k => []) (fun k => 4 - k) (fun k => k ≤ 4) 0
  Weak.refl ⟨rfl, ?_, rfl, rfl, trivial⟩ trivial (Nat.zero_le _) ?_
 ·unfold fNums; rw [hgd]; rfl
 intro k τ H hk
 have hk : k ≤ 4 := hk
 conv => whnf
 refine kbi (fun h => ?_) (fun h => ?_)
 ·have hk4 : k < 4 := by
   have := of_decide_eq_true h
   omega
  have hlt : k < (fNums s e).length := hk4
  have hr := hin _ (List.getElem_mem hlt)
  unfold InR at hr
  have d1 : (Lib.decDigits ((fNums s e)[k]).toNat).length ≤ 3 := digits_len _ 3 (by omega) (by omega)
  have hfl := fText_len s e hin k hk
  have hit := itoaL_nat hr.1
  conv => whnf
  refine ⟨encInt (fNums s e)[k], map_get encInt hlt rfl, ?_⟩
  conv => whnf
  refine ⟨_, Itoa_ok (fNums s e)[k] (by omega) (by omega), ?_⟩
  rintro r rfl
  conv => whnf
  rw [hit]
  refine ⟨by show 1 + _ ≤ _; omega, ?_⟩
  conv => whnf
  refine ⟨by simp; omega, ?_⟩
  conv => whnf
  refine ⟨k + 1, by show k + 1 ≤ 4; omega, by show 4 - (k + 1) < 4 - k; omega, ⟨?_, rfl, rfl, ?_, trivial⟩, trivial⟩
  ·exact congrArg sv (fText_succ s e k hlt).symm
  ·show AV.d (.int .i64 (IntKind.i64.wrap ((k : Int) + 1))) = i64 ((k + 1 : Nat) : Int)
   rw [wrap_id (by omega) (by omega)]
   rfl
 ·have hk4 : k = 4 := by
   have : ¬ (k : Int) < 4 := fun e => h (decide_eq_true e)
   omega
  subst hk4
  conv => whnf
  rw [fText_end]
  try rfl
theorem signOf_ok (p : ProgL) (hp : p.wf) (hg : p.goodS) (budget : Int) (x : RunT) (h : REnd p budget x) (hb : budget ≤ 1048576) : CallsTo EE 59 [agg (encProg p), agg (encRT x)] (· = sv (signL p x)) := by
 obtain ⟨c, tr, tk, s⟩ := x
 have hcode : c = codeL p s tr.length budget := h.code
 have hpos : 0 < c := h.pos
 have hcs := code_cases (show 0 < codeL p s tr.length budget by rw [← hcode]; exact hpos)
 rw [← hcode] at hcs
 have hi : AInv p s := h.inv
 have hT : TrOK s tr := h.tr
 have hle : (tr.length : Int) ≤ budget := h.le
 unfold signL
 show CallsTo EE 59 [agg (encProg p), agg (encRun c tr tk s)] (· = sv (if c = 1 then [100, 111, 110, 101] else if c = 4 then [98, 117, 100, 103, 101, 116] else if c = 3 then [115, 116, 117, 99, 107, 32] ++ dashT (txt (deadL p s)) else faultT s (tr.getLastD ev00)))
 rcases hcs with (rfl | rfl | rfl) | ⟨rfl, hf⟩
 ·exact signOf_done p s tr tk
 ·have hd := dead_picks hi
  have hc := cyc_ok (ainv_graph hi)
  have htl := txt_len (deadL p s) hd.2 (deadL p s).length (Nat.le_refl _)
  rw [List.take_length] at htl
  have := signOf_stuck p s 3 tr tk hp (ainv_small hg hi) (ainv_seen hg hi) (ainv_graph hi) rfl (by omega) (fun x hx => by have := hc.2 x hx; omega) (by rw [dead_txt]; have := hd.1; omega)
  rw [dead_txt] at this
  exact this
 ·exact signOf_budget p s tr tk
 ·exact signOf_fault p hg s tr tk hi hT (hT.ne hf) (by omega)
end Ai
end
section
set_option maxRecDepth 100000
namespace Ai
open Go Go.Proofs
theorem szOpS_ok (xs : List (List D)) (left : Int) (h0 : 0 ≤ left) (h1 : left ≤ 1048576) (hx : xs.length ≤ 9223372036854775807) :
  CallsTo EE 73 [sl xs, i64 left] (szR left xs.length) := by
 refine callsTo_of_AW (fn := Tryz.f73) Tryz.func73 rfl (by kernel_rfl) rfl ?_
 conv => whnf
 rw [wrap_id (by omega) (by omega)]
 refine ⟨fun h => ?_, fun h => ?_⟩
 ·conv => whnf
  exact ⟨-1, rfl, by omega, by omega, by omega⟩
 ·conv => whnf
  simp at h
  exact ⟨_, rfl, by omega, by omega, by omega⟩
theorem szOpSS_ok (xs : List (List OpL)) (left : Int) (h0 : 0 ≤ left) (h1 : left ≤ 1048576) (hx : xs.length ≤ 9223372036854775807) (hx2 : ∀ x ∈ xs, x.length ≤ 9223372036854775807) :
  CallsTo EE 38 [sl (xs.map encRow), i64 left] (szR left (sizeSS List.length xs)) := by
 refine callsTo_of_AW (fn := Tryz.f38) Tryz.func38 rfl (by kernel_rfl) rfl ?_
 conv => whnf
 rw [wrap_id (by simp; omega) (by simp; omega), List.length_map]
 refine ⟨fun h => ?_, fun h => ?_⟩
 ·conv => whnf
  exact ⟨-1, rfl, by omega, by omega, by omega⟩
 ·simp at h
  conv => whnf
  refine aloop (fun x : Nat × Int => [(0, sl (xs.map encRow)), (5, i64 x.1), (1, i64 x.2)]) (fun _ => []) (fun x => xs.length - x.1)
   (fun x => x.1 ≤ xs.length ∧ 0 ≤ x.2 ∧ (xs.length : Int) + ((xs.map List.length).take x.1).sum + x.2 ≤ left) (0, left - xs.length) .refl ⟨rfl, rfl, rfl, trivial⟩ trivial ⟨by omega, by omega, by simp; omega⟩ ?_
  rintro ⟨k, l⟩ τ H ⟨hk, hl, hs⟩
  dsimp only at hk hl hs
  conv => whnf
  refine ⟨fun h => ?_, fun h => ?_⟩
  ·have hlt := lt_map h
   conv => whnf
   refine ⟨encRow xs[k], map_get encRow hlt rfl, ?_⟩
   conv => whnf
   refine ⟨_, szOpS_ok _ l hl (by omega) (by simpa using hx2 _ (List.getElem_mem hlt)), ?_⟩
   rintro r ⟨n, rfl, hn1, hn2, hn3⟩
   conv => whnf
   refine ⟨fun h => ?_, fun h => ?_⟩
   ·conv => whnf
    exact ⟨-1, rfl, by omega, by omega, by omega⟩
   ·simp at h
    conv => whnf
    refine ⟨(k + 1, n), ⟨by omega, by omega, ?_⟩, by show xs.length - (k + 1) < xs.length - k; omega, ⟨rfl, next_i64 hlt hx, rfl, trivial⟩, trivial⟩
    have hm : k < (xs.map List.length).length := by simpa using hlt
    rw [sum_take_succ _ _ hm]
    have := hn3 h
    simp at this ⊢
    omega
  ·have hge := ge_map h
   conv => whnf
   have hkk : k = xs.length := by omega
   subst hkk
   refine ⟨_, rfl, by omega, ?_, ?_⟩
   ·omega
   ·intro _
    simp only [sizeSS]
    rw [List.take_of_length_le (by simp)] at hs
    simp at hs ⊢
    omega
theorem szProg_ok (p : ProgL) (left : Int) (h0 : 0 ≤ left) (h1 : left ≤ 1048576) (hs : p.wf) : CallsTo EE 11 [agg (encProg p), i64 left] (szR left p.size) := by
 refine callsTo_of_AW (fn := Tryz.f11) Tryz.func11 rfl (by kernel_rfl) rfl ?_
 conv => whnf
 refine ⟨_, szOpSS_ok _ left h0 h1 hs.1 hs.2, ?_⟩
 rintro r ⟨n, rfl, hn1, hn2, hn3⟩
 conv => whnf
 refine ⟨fun h => ?_, fun h => ?_⟩
 ·conv => whnf
  exact ⟨-1, rfl, by omega, by omega, by omega⟩
 ·simp at h
  conv => whnf
  exact ⟨_, rfl, by omega, by omega, hn3⟩
end Ai
end
section
set_option maxRecDepth 100000
namespace Ai
open Go Go.Proofs
theorem ne_self_int (n : Int) (h : (n != n) = true) : False := by simp at h
theorem eqIntS_ok (xs : List Int) (hx : xs.length ≤ 1048576) : CallsTo EE 17 [sl (xs.map encInt), sl (xs.map encInt)] (· = bv true) := by
 refine callsTo_of_AW (fn := Tryz.f17) Tryz.func17 rfl (by kernel_rfl) rfl ?_
 conv => whnf
 refine ⟨fun h => (ne_self_int _ h).elim, fun _ => ?_⟩
 conv => whnf
 refine aloop (fun k : Nat => [(0, sl (xs.map encInt)), (1, sl (xs.map encInt)), (5, i64 k)]) (fun k => []) (fun k => xs.length - k) (fun k => k ≤ xs.length) 0 .refl ⟨rfl, rfl, rfl, trivial⟩ trivial (Nat.zero_le _) ?_
 intro k τ H hk
 conv => whnf
 refine ⟨fun h => ?_, fun h => ?_⟩
 ·have hlt := lt_map h
  conv => whnf
  refine ⟨by kernel_rfl, ?_⟩
  conv => whnf
  refine ⟨encInt xs[k], map_get encInt hlt rfl, ?_⟩
  conv => whnf
  refine ⟨encInt xs[k], map_get encInt hlt rfl, ?_⟩
  conv => whnf
  refine ⟨fun h => (ne_self_int _ h).elim, fun _ => ?_⟩
  conv => whnf
  refine ⟨k + 1, by omega, by show xs.length - (k + 1) < xs.length - k; omega, ⟨rfl, rfl, next_i64 hlt (by omega), trivial⟩, trivial⟩
 ·conv => whnf
theorem sameFloat_ok (x : Nat) : CallsTo EE 160 [.d (.flt x), .d (.flt x)] (· = bv true) := by
 refine callsTo_of_AW (fn := Tryz.f160) Tryz.func160 rfl (by kernel_rfl) rfl ?_
 conv => whnf
 repeat' (refine kbi (fun h => ?_) (fun h => ?_) <;> first | contradiction | conv => whnf)
 all_goals simp [fcmp_ne] at *
 all_goals simp_all
theorem eqOp_ok (x : OpL) : CallsTo EE 127 [agg (encOp x), agg (encOp x)] (· = bv true) := by
 refine callsTo_of_AW (fn := Tryz.f127) Tryz.func127 rfl (by kernel_rfl) rfl ?_
 conv => whnf
 refine ⟨fun h => (ne_self_int _ h).elim, fun _ => ?_⟩
 conv => whnf
 refine ⟨fun h => (ne_self_int _ h).elim, fun _ => ?_⟩
 conv => whnf
 refine ⟨fun h => (ne_self_int _ h).elim, fun _ => ?_⟩
 conv => whnf
 refine ⟨_, sameFloat_ok x.v, ?_⟩
 rintro r rfl
 conv => whnf
theorem eqOpS_ok (xs : List OpL) (hx : xs.length ≤ 1048576) : CallsTo EE 82 [sl (xs.map encOp), sl (xs.map encOp)] (· = bv true) := by
 refine callsTo_of_AW (fn := Tryz.f82) Tryz.func82 rfl (by kernel_rfl) rfl ?_
 conv => whnf
 refine ⟨fun h => (ne_self_int _ h).elim, fun _ => ?_⟩
 conv => whnf
 refine aloop (fun k : Nat => [(0, sl (xs.map encOp)), (1, sl (xs.map encOp)), (5, i64 k)]) (fun k => []) (fun k => xs.length - k) (fun k => k ≤ xs.length) 0 .refl ⟨rfl, rfl, rfl, trivial⟩ trivial (Nat.zero_le _) ?_
 intro k τ H hk
 conv => whnf
 refine ⟨fun h => ?_, fun h => ?_⟩
 ·have hlt := lt_map h
  conv => whnf
  refine ⟨by kernel_rfl, ?_⟩
  conv => whnf
  refine ⟨encOp xs[k], map_get encOp hlt rfl, ?_⟩
  conv => whnf
  refine ⟨encOp xs[k], map_get encOp hlt rfl, ?_⟩
  conv => whnf
  refine ⟨_, eqOp_ok xs[k], ?_⟩
  conv => whnf
  refine ⟨k + 1, by omega, by show xs.length - (k + 1) < xs.length - k; omega, ⟨rfl, rfl, next_i64 hlt (by omega), trivial⟩, trivial⟩
 ·conv => whnf
theorem eqOpSS_ok (xs : List (List OpL)) (hx : xs.length ≤ 1048576) (hx2 : ∀ x ∈ xs, x.length ≤ 1048576) : CallsTo EE 46 [sl (xs.map encRow), sl (xs.map encRow)] (· = bv true) := by
 refine callsTo_of_AW (fn := Tryz.f46) Tryz.func46 rfl (by kernel_rfl) rfl ?_
 conv => whnf
 refine ⟨fun h => (ne_self_int _ h).elim, fun _ => ?_⟩
 conv => whnf
 refine aloop (fun k : Nat => [(0, sl (xs.map encRow)), (1, sl (xs.map encRow)), (5, i64 k)]) (fun k => []) (fun k => xs.length - k) (fun k => k ≤ xs.length) 0 .refl ⟨rfl, rfl, rfl, trivial⟩ trivial (Nat.zero_le _) ?_
 intro k τ H hk
 conv => whnf
 refine ⟨fun h => ?_, fun h => ?_⟩
 ·have hlt := lt_map h
  conv => whnf
  refine ⟨by kernel_rfl, ?_⟩
  conv => whnf
  refine ⟨encRow xs[k], map_get encRow hlt rfl, ?_⟩
  conv => whnf
  refine ⟨encRow xs[k], map_get encRow hlt rfl, ?_⟩
  conv => whnf
  refine ⟨_, eqOpS_ok xs[k] (hx2 _ (List.getElem_mem hlt)), ?_⟩
  conv => whnf
  refine ⟨k + 1, by omega, by show xs.length - (k + 1) < xs.length - k; omega, ⟨rfl, rfl, next_i64 hlt (by omega), trivial⟩, trivial⟩
 ·conv => whnf
theorem eqProg_ok (p : ProgL) (h : p.rs.length ≤ 1048576 ∧ ∀ x ∈ p.rs, x.length ≤ 1048576) : CallsTo EE 16 [agg (encProg p), agg (encProg p)] (· = bv true) := by
 refine callsTo_of_AW (fn := Tryz.f16) Tryz.func16 rfl (by kernel_rfl) rfl ?_
 conv => whnf
 refine ⟨fun h => (ne_self_int _ h).elim, fun _ => ?_⟩
 conv => whnf
 refine ⟨fun h => (ne_self_int _ h).elim, fun _ => ?_⟩
 conv => whnf
 refine ⟨fun h => (ne_self_int _ h).elim, fun _ => ?_⟩
 conv => whnf
 refine ⟨_, eqOpSS_ok _ h.1 h.2, ?_⟩
 rintro r rfl
 conv => whnf
end Ai
end
section
set_option maxRecDepth 100000
namespace Ai
open Go Go.Proofs Cyc
def Still (p : ProgL) (picks : List Int) (sign : List UInt8) : Prop := signL p (runOf p picks 200) = sign
theorem l12Still_ok (p : ProgL) (hp : p.wf) (hg : p.goodS) (hv : p.flt) (picks : List Int) (sign : List UInt8) (hpk : ∀ i ∈ picks, 0 ≤ i) (hl : picks.length ≤ 1048576) : CallsTo EE 41 [agg (encProg p), sl (picks.map encInt), sv sign] (· = bp (Still p picks sign)) := by
 refine callsTo_of_AW (fn := Tryz.f41) Tryz.func41 rfl (by kernel_rfl) rfl ?_
 conv => whnf
 refine ⟨by kernel_rfl, ?_⟩
 conv => whnf
 refine ⟨_, l4Run_of p hp hg picks 200 hpk hl (by unfold InR; omega), ?_⟩
 conv => whnf
 refine ⟨_, l4Sign_ok p hp hg hv 200 _ (runOf_end hg hv picks 200 hpk (by omega)) (by omega), ?_⟩
 conv => whnf
 refine ⟨fun h => ?_, fun h => ?_⟩
 ·conv => whnf
  exact bpt (eq_of_beq h)
 ·conv => whnf
  exact bpf (fun e => by rw [Still] at e; simp [e] at h)
theorem still_ok (p : ProgL) (hp : p.wf) (hg : p.goodS) (hv : p.flt) (picks : List Int) (sign : List UInt8) (hpk : ∀ i ∈ picks, 0 ≤ i) (hl : picks.length ≤ 1048576) : CallsTo EE 45 [agg (encProg p), sl (picks.map encInt), sv sign] (· = bp (Still p picks sign)) := by
 refine callsTo_of_AW (fn := Tryz.f45) Tryz.func45 rfl (by kernel_rfl) rfl ?_
 conv => whnf
 refine ⟨by kernel_rfl, ?_⟩
 conv => whnf
 refine ⟨_, runPicks_of p hp hg hv picks 200 hpk hl (by unfold InR; omega), ?_⟩
 conv => whnf
 refine ⟨_, signOf_ok p hp hg 200 _ (runOf_end hg hv picks 200 hpk (by omega)) (by omega), ?_⟩
 conv => whnf
 refine ⟨fun h => ?_, fun h => ?_⟩
 ·conv => whnf
  exact bpt (eq_of_beq h)
 ·conv => whnf
  exact bpf (fun e => by rw [Still] at e; simp [e] at h)
def Picks6 (xs : List Int) : Prop := xs.length ≤ 60 ∧ AllIn xs 0 999
theorem Picks6.nn {xs : List Int} (h : Picks6 xs) : ∀ i ∈ xs, 0 ≤ i := fun i hi => (h.2 i hi).1
theorem l12Picks_ok (xs : List Int) (hx : xs.length ≤ 1048576) : CallsTo EE 40 [sl (xs.map encInt)] (· = bp (Picks6 xs)) := by
 refine callsTo_of_AW (fn := Tryz.f40) Tryz.func40 rfl (by kernel_rfl) rfl ?_
 conv => whnf
 refine kbi (fun h4 => ?_) (fun h4 => ?_)
 ·simp at h4
  conv => whnf
  refine ocase (l1All_ok xs 0 999 hx) (fun h5 => ?_) (fun h5 => ?_)
  ·conv => whnf
   exact bpt ⟨by omega, h5⟩
  ·conv => whnf
   exact bpf fun hm => h5 hm.2
 ·simp at h4
  conv => whnf
  exact bpf fun hm => by have := hm.1; omega
theorem areShort_ok (xs : List Int) (hx : xs.length ≤ 1048576) : CallsTo EE 44 [sl (xs.map encInt)] (· = bp (Picks6 xs)) := by
 refine callsTo_of_AW (fn := Tryz.f44) Tryz.func44 rfl (by kernel_rfl) rfl ?_
 conv => whnf
 refine ⟨_, arePicks_ok xs 60 hx, ?_⟩
 rintro r rfl
 conv => whnf
 try rfl
theorem StillSoS_ok (p : ProgL) (hp : p.wf) (hs : p.rs.length ≤ 1048576 ∧ ∀ x ∈ p.rs, x.length ≤ 1048576) (hv : p.flt) (picks : List Int) (sign : List UInt8) (hl : picks.length ≤ 1048576) :
  CallsTo EE 12 [agg (encProg p), sl (picks.map encInt), sv sign] (· = .tup [bp ((p.goodS ∧ Picks6 picks) ∧ Still p picks sign), bp (p.goodS ∧ Picks6 picks)]) := by
 refine callsTo_of_AW (fn := Tryz.f12) Tryz.func12 rfl (by kernel_rfl) rfl ?_
 conv => whnf
 refine ocase (GoodProgS_ok p hs hv) (fun hg => ?_) (fun hg => ?_)
 rotate_left
 ·conv => whnf
  rw [show bp ((p.goodS ∧ Picks6 picks) ∧ Still p picks sign) = bv false from (bpf fun e => hg e.1.1).symm, show bp (p.goodS ∧ Picks6 picks) = bv false from (bpf fun e => hg e.1).symm]
  try rfl
 conv => whnf
 refine ocase (l12Picks_ok picks hl) (fun h6 => ?_) (fun h6 => ?_)
 rotate_left
 ·conv => whnf
  rw [show bp ((p.goodS ∧ Picks6 picks) ∧ Still p picks sign) = bv false from (bpf fun e => h6 e.1.2).symm, show bp (p.goodS ∧ Picks6 picks) = bv false from (bpf fun e => h6 e.2).symm]
  try rfl
 conv => whnf
 rw [show bp (p.goodS ∧ Picks6 picks) = bv true from (bpt ⟨hg, h6⟩).symm]
 refine ocase (l12Still_ok p hp hg hv picks sign h6.nn hl) (fun h => ?_) (fun h => ?_)
 ·conv => whnf
  rw [show bp ((p.goodS ∧ Picks6 picks) ∧ Still p picks sign) = bv true from (bpt ⟨⟨hg, h6⟩, h⟩).symm]
  try rfl
 ·conv => whnf
  rw [show bp ((p.goodS ∧ Picks6 picks) ∧ Still p picks sign) = bv false from (bpf fun e => h e.2).symm]
  try rfl
theorem StillSoI_ok (p : ProgL) (hp : p.wf) (hs : p.rs.length ≤ 1048576 ∧ ∀ x ∈ p.rs, x.length ≤ 1048576) (hv : p.flt) (picks : List Int) (sign : List UInt8) (hl : picks.length ≤ 1048576) :
  CallsTo EE 15 [agg (encProg p), sl (picks.map encInt), sv sign] (· = .tup [bp ((p.goodS ∧ Picks6 picks) ∧ Still p picks sign), bp (p.goodS ∧ Picks6 picks)]) := by
 refine callsTo_of_AW (fn := Tryz.f15) Tryz.func15 rfl (by kernel_rfl) rfl ?_
 conv => whnf
 refine ocase (GoodProgI_ok p hs) (fun hg => ?_) (fun hg => ?_)
 rotate_left
 ·have hg : ¬ p.goodS := fun e => hg ((prog_same p).1 e)
  conv => whnf
  rw [show bp ((p.goodS ∧ Picks6 picks) ∧ Still p picks sign) = bv false from (bpf fun e => hg e.1.1).symm, show bp (p.goodS ∧ Picks6 picks) = bv false from (bpf fun e => hg e.1).symm]
  try rfl
 have hg : p.goodS := (prog_same p).2 hg
 conv => whnf
 refine ocase (areShort_ok picks hl) (fun h6 => ?_) (fun h6 => ?_)
 rotate_left
 ·conv => whnf
  rw [show bp ((p.goodS ∧ Picks6 picks) ∧ Still p picks sign) = bv false from (bpf fun e => h6 e.1.2).symm, show bp (p.goodS ∧ Picks6 picks) = bv false from (bpf fun e => h6 e.2).symm]
  try rfl
 conv => whnf
 rw [show bp (p.goodS ∧ Picks6 picks) = bv true from (bpt ⟨hg, h6⟩).symm]
 refine ocase (still_ok p hp hg hv picks sign h6.nn hl) (fun h => ?_) (fun h => ?_)
 ·conv => whnf
  rw [show bp ((p.goodS ∧ Picks6 picks) ∧ Still p picks sign) = bv true from (bpt ⟨⟨hg, h6⟩, h⟩).symm]
  try rfl
 ·conv => whnf
  rw [show bp ((p.goodS ∧ Picks6 picks) ∧ Still p picks sign) = bv false from (bpf fun e => h e.2).symm]
  try rfl
end Ai
end
section
set_option maxRecDepth 100000
namespace Ai
open Go Go.Proofs Go.Shelf Go.Sort Go.RowKit
theorem ent84 : ∀ args w, (callFunc 84 args).run Tryz.prog w = .ok (.enter 84 args) w := enters_of Tryz.func84 (by kernel_rfl) rfl
theorem ent48 : ∀ args w, (callFunc 48 args).run Tryz.prog w = .ok (.enter 48 args) w := enters_of Tryz.func48 (by kernel_rfl) rfl
def dropL (xs : List Int) (i j : Nat) : List Int := xs.take i ++ xs.drop j
theorem putRow_at (w : World) (g : Nat) (d : Array Int) (cur : Array Value) (h : w.heap[g]? = some (.cells cur 3 (0, 0))) :
  (putRow (Value.int .i64) w g 0 d).heap[g]? = some (.cells (putCells (Value.int .i64) 0 d cur) 3 (0, 0)) := by
 simp only [putRow, mapBlock, Array.getElem?_modify, if_true, h, Option.map_some, onCells]
theorem putCells_get (d : Array Int) (cur : Array Value) (t : Nat) (h1 : t < d.size) (h2 : t < cur.size) : (putCells (Value.int .i64) 0 d cur)[t]? = some (.int .i64 d[t]) := by
 simp only [putCells, Array.getElem?_mapIdx, Array.getElem?_eq_getElem h2, Option.map_some, Nat.zero_le, true_and, Nat.zero_add, h1, if_true, Nat.sub_zero]
 rw [getElem!_pos d t h1]
def Left (w w' : World) (v : Value) (xs : List Int) : Prop :=
 Below w.heap.size w w' ∧ ∃ (g cap : Nat) (cur : Array Value), v = .slice (some ⟨g, 0, none⟩) xs.length cap ∧ w.heap.size ≤ g ∧ w'.heap[g]? = some (.cells cur 3 (0, 0)) ∧ xs.length ≤ cap ∧ cap ≤ maxLen ∧ cur.size = cap ∧
  ∀ (t : Nat) (x : Int), xs[t]? = some x → cur[t]? = some (.int .i64 x)
theorem del_left {w w1 : World} {g cap : Nat} {cur : Array Value} {zs : List Int} {i j : Nat} (hb : Below w.heap.size w w1) (hg : w.heap.size ≤ g) (hcur : w1.heap[g]? = some (.cells cur 3 (0, 0))) (hn : zs.length ≤ cap) (hm : cap ≤ maxLen) (hs : cur.size = cap * 1)
  (ht : cur.toList.take (zs.length * 1) = zs.map (Value.int .i64)) (hij : i ≤ j) (hj : j ≤ zs.length) :
  Calls Tryz.prog 84 #[.slice (some ⟨g, 0, none⟩) zs.length cap, .int .i64 i, .int .i64 j] w1 fun e w' => ∃ v, e = .returned v ∧ Left w w' v (dropL zs i j) := by
 have hgl : g < w1.heap.size := (Array.getElem?_eq_some_iff.1 hcur).1
 have hc : ∀ t, t < zs.length → cur[t]? = some (.int .i64 (zs.getD t 0)) := by
  intro t ht2
  have h3 : (cur.toList.take (zs.length * 1))[t]? = some (Value.int .i64 (zs.getD t 0)) := by rw [ht]; simp [List.getD_eq_getElem?_getD, ht2]
  rw [List.getElem?_take_of_lt (by omega)] at h3
  simpa using h3
 have hH : Holds (Value.int .i64) w1 g 0 zs.toArray := by
  intro t ht2
  have ht2 : t < zs.length := by simpa using ht2
  constructor
  ·simp only [World.cell?, hcur, Nat.zero_add, hc t ht2]
   simp [List.getD_eq_getElem?_getD, ht2]
  ·simp [World.frozen?, hcur]
 have hml : maxLen = 9223372036854775807 := rfl
 refine Calls.mono (show Calls Tryz.prog 84 _ _ _ from Any.slices_Delete_int Tryz.laysDelete g 0 cap i j zs w1 hH hn (by omega) hij hj) ?_
 rintro e w' ⟨rfl, q, rfl⟩
 have hcur2 : (Sort.ahead w1 q).heap[g]? = some (.cells cur 3 (0, 0)) := hcur
 have hlen : (dropL zs i j).length = zs.length - (j - i) := by simp [dropL]; omega
 have hd : (zs.take i ++ zs.drop j ++ List.replicate (j - i) 0).toArray.size = zs.length := by simp; omega
 refine ⟨_, rfl, ⟨?_, ?_, ?_, ?_, fun k hk => ?_⟩, g, cap, _, by rw [hlen], hg, putRow_at _ _ _ _ hcur2, by omega, hm, ?_, fun t x hx => ?_⟩
 ·exact hb.os
 ·exact hb.tape
 ·exact hb.output
 ·rw [size_putRow]; exact hb.size
 ·rw [putRow_heap _ _ _ _ _ _ (by omega)]; exact hb.block k hk
 ·simp [putCells, hs]
 ·have htl := (List.getElem?_eq_some_iff.1 hx).1
  rw [putCells_get _ _ _ (by omega) (by omega)]
  simp only [List.getElem_toArray]
  rw [List.getElem_append_left (by rw [show (zs.take i ++ zs.drop j) = dropL zs i j from rfl]; omega)]
  rw [List.getElem?_eq_getElem htl] at hx
  injection hx with hx
  subst hx
  rfl
theorem drop_calls (b off cap i j : Nat) (zs : List Int) (w : World) (hc : ∀ j, j < zs.length → w.cell? ⟨b, off + j, none⟩ = some (.int .i64 (zs.getD j 0))) (hz : zs.length ≤ 1048576) (hij : i ≤ j) (hj : j ≤ zs.length) :
  Calls Tryz.prog 48 #[.slice (some ⟨b, off, none⟩) zs.length cap, .int .i64 i, .int .i64 j] w fun e w' => ∃ v, e = .returned v ∧ Left w w' v (dropL zs i j) := by
 have hS : Calls Tryz.prog 50 #[.slice (some ⟨b, off, none⟩) zs.length cap] w fun e w1 => ∃ g cap2 cur, e = .returned (.slice (some ⟨g, 0, none⟩) zs.length cap2) ∧ Below w.heap.size w w1 ∧ w.heap.size ≤ g ∧ w1.heap[g]? = some (.cells cur 3 (0, 0)) ∧ zs.length ≤ cap2 ∧ cap2 ≤ maxLen ∧ cur.size = cap2 * 1 ∧ cur.toList.take (zs.length * 1) = zs.map (Value.int .i64) := by
  refine Calls.mono (show Calls Tryz.prog 50 _ _ _ from Any.slices_Clone_int Tryz.laysClone b off zs.length cap zs w (Nat.le_refl _) (by omega) hc) ?_
  rintro e w1 ⟨v, rfl, ⟨h1, h2⟩, hne, hb⟩
  rcases h2 with ⟨rfl, _⟩ | ⟨g, cap2, cur, rfl, hg, hcur, hn, hm, hs, ht⟩
  ·exact absurd rfl hne
  ·rw [List.take_length] at ht
   exact ⟨g, cap2, cur, rfl, hb, hg, hcur, hn, hm, hs, ht⟩
 clear hc
 have e50 : ∀ args w, (callFunc 50 args).run Tryz.prog w = .ok (.enter 50 args) w := ent50
 have e84 : ∀ args w, (callFunc 84 args).run Tryz.prog w = .ok (.enter 84 args) w := ent84
 go_enter Tryz.func48, Tryz.ntmps48
 go_wp2_with (first
  |(go_at_call 50; refine hS.mono ?_; rintro e w1 ⟨g, cap2, cur, rfl, hb, hg, hcur, hn, hm, hs, ht⟩)
  |(go_at_call 84; refine (del_left hb hg hcur hn hm hs ht hij hj).mono ?_; rintro e w' ⟨v, rfl, hL⟩))
 go_ret
 exact ⟨_, rfl, hL⟩
theorem left_uq {w w' : World} {A : Nat → Prop} {v : Value} {xs : List Int} (h : Left w w' v xs) : RRel w w' A (.uq 3 1 (xs.map encInt)) v := by
 obtain ⟨hb, g, cap, cur, rfl, hg, hcur, hn, hm, hsz, ht⟩ := h
 right
 refine ⟨g, cap, cur, by simp, hg, hcur, by simpa using hn, hm, by omega, fun j c hj => ?_⟩
 rw [List.getElem?_map, Option.map_eq_some_iff] at hj
 obtain ⟨x, hx, rfl⟩ := hj
 refine ⟨rfl, fun i d hi => ?_⟩
 match i, hi with
 | 0, hi =>
  simp only [encInt, List.getElem?_cons_zero, Option.some.injEq] at hi
  subst hi
  exact ⟨.int .i64 x, by rw [Nat.mul_one, Nat.add_zero]; exact ht j x hx, .int _ _⟩
 |i + 1, hi => simp [encInt] at hi
theorem dropI_ok (xs : List Int) (i j : Nat) (hx : xs.length ≤ 1048576) (h0 : xs ≠ []) (hij : i ≤ j) (hj : j ≤ xs.length) : CallsTo EE 48 [sl (xs.map encInt), i64 i, i64 j] (· = .uq 3 1 ((dropL xs i j).map encInt)) := by
 intro w A vs hI hA
 obtain ⟨hl, hr⟩ := hA
 have h1 : vs.size = 3 := hl.symm
 obtain ⟨v, u1, u2, rfl⟩ : ∃ v u1 u2, vs = #[v, u1, u2] := ⟨vs[0], vs[1], vs[2], by
  apply Array.ext (by simp [h1])
  intro i h2 h3
  simp at h3
  match i, h3 with
  | 0, _ => rfl
  | 1, _ => rfl
  | 2, _ => rfl⟩
 have g0 := hr 0 _ v rfl rfl
 have g1 := hr 1 _ u1 rfl rfl
 have g2 := hr 2 _ u2 rfl rfl
 cases g1 with
 |d _ _ hd1 =>
  have := intInv hd1
  subst this
  cases g2 with
  |d _ _ hd2 =>
   have := intInv hd2
   subst this
   cases g0 with
   |d _ _ hd =>
    unfold Invokes
    rw [show Sem.run EE.P (callFunc 48 _) w = _ from ent48 _ w]
    rcases row1 (d := D.int .i64) (xs := xs) hd with ⟨rfl, a, cap, rfl⟩ | ⟨b, off, cap, us, rfl, hok, hcap, hc⟩
    ·exact absurd rfl h0
    ·have hcells : ∀ j, j < xs.length → w.cell? ⟨b, off + j, none⟩ = some (.int .i64 (xs.getD j 0)) := by
      intro j hj
      obtain ⟨g1, g2⟩ := hc j xs[j] (List.getElem?_eq_getElem hj)
      rw [g1, intInv g2]
      simp [List.getD_eq_getElem?_getD, List.getElem?_eq_getElem hj]
     refine Calls.mono (show Calls Tryz.prog 48 _ _ _ from drop_calls b off cap i j xs w hcells hx hij hj) ?_
     rintro e w' ⟨v, rfl, hL⟩
     exact ⟨_, rfl, _, rfl, hL.1, left_uq hL⟩
end Ai
end
section
set_option maxRecDepth 100000
namespace Ai
open Go Go.Proofs Cyc
theorem l12Drop_ok (xs : List Int) (i j : Nat) (hx : xs.length ≤ 1048576) (hij : i ≤ j) (hj : j ≤ xs.length) : CallsTo EE 47 [sl (xs.map encInt), i64 i, i64 j] (· = .uq 3 1 ((dropL xs i j).map encInt)) := by
 refine callsTo_of_AW (fn := Tryz.f47) Tryz.func47 rfl (by kernel_rfl) rfl ?_
 conv => whnf
 refine .inr (.inl ⟨7, [], ?_⟩)
 conv => whnf
 refine ⟨⟨by omega, by omega, by simp; omega, fun c hc => by obtain ⟨x, _, rfl⟩ := List.mem_map.1 hc; rfl⟩, ?_⟩
 conv => whnf
 have e1 : (((xs.map encInt).drop 0).take ((i : Int) - 0).toNat) = (xs.take i).map encInt := by simp [List.map_take]
 have ho := l1Own_ok (xs.take i) (by simp; omega)
 rw [show (((xs.map encInt).drop (Int.toNat 0)).take ((i : Int).toNat - Int.toNat 0)) = (xs.take i).map encInt by simp [List.map_take]]
 refine ⟨_, ho, ?_⟩
 conv => whnf
 refine .inr ⟨_, rfl, ?_⟩
 conv => whnf
 refine ⟨⟨by omega, by simp; omega, by simp, fun c hc => by obtain ⟨x, _, rfl⟩ := List.mem_map.1 hc; rfl⟩, ?_⟩
 conv => whnf
 refine ⟨by kernel_rfl, ?_⟩
 conv => whnf
 rw [show (((xs.map encInt).drop (j : Int).toNat).take ((((xs.map encInt).length : Int)).toNat - (j : Int).toNat)) = (xs.drop j).map encInt by
  simp [List.map_drop]; exact List.take_of_length_le (by simp)]
 refine ⟨⟨List.all_eq_true.2 fun c hc => by obtain ⟨x, _, rfl⟩ := List.mem_map.1 hc; rfl, ?_, ?_⟩, ?_⟩
 ·show ((List.map encInt (List.take i xs)).length + (List.map encInt (List.drop j xs)).length) * 8 ≤ _
  simp; omega
 ·simp; omega
 conv => whnf
 refine congrArg (AV.uq 3 1) ?_
 rw [List.take_of_length_le (l := (xs.take i).map encInt) (Nat.le_refl _), List.take_of_length_le (by simp), ← List.map_append]
 rfl
theorem drop_in {xs : List Int} {i j : Nat} (h : ∀ x ∈ xs, 0 ≤ x) : ∀ x ∈ dropL xs i j, 0 ≤ x := by
 intro x hx
 rcases List.mem_append.1 hx with h1 | h1
 ·exact h x (List.mem_of_mem_take h1)
 ·exact h x (List.mem_of_mem_drop h1)
theorem drop_le {xs : List Int} {i j : Nat} (h : i ≤ j) : (dropL xs i j).length ≤ xs.length := by simp [dropL]; omega
end Ai
end
section
set_option maxRecDepth 100000
namespace Ai
open Go Go.Proofs Cyc
theorem setEl_map (c : List Int) (k : Nat) (x : Int) : setEl (c.map encInt) 1 (0 + (k : Int).toNat) 0 [di x] = (c.set k x).map encInt := by
 have e : setEl (c.map encInt) 1 (0 + (k : Int).toNat) 0 [di x] = (c.map encInt).set k [di x] := by
  unfold setEl
  rw [show ([di x] : List D).length = 1 from rfl, nbeq_self, nbeq_self]
  simp
 rw [e, List.map_set]
 rfl
def OkS (p : ProgL) (picks : List Int) (sign : List UInt8) : Prop := (p.goodS ∧ Picks6 picks) ∧ Still p picks sign
end Ai
end
section
set_option maxRecDepth 100000
namespace Ai
open Go Go.Proofs
def marks (k : Int) (n : Nat) : List Int := (List.range n).map fun (j : Nat) => k + (j : Int)
theorem marks_len (k : Int) (n : Nat) : (marks k n).length = n := by simp [marks]
theorem marks_get {k : Int} {n j : Nat} (h : j < n) : (marks k n)[j]? = some (k + (j : Int)) := by simp [marks, h]
def markTo (xs : List Int) (k : Int) (n : Nat) : List Int := marks k n ++ xs.drop n
theorem markTo_succ {xs : List Int} {k : Int} {n : Nat} (h : n < xs.length) : (markTo xs k n).set n (k + (n : Int)) = markTo xs k (n + 1) := by
 unfold markTo
 rw [List.drop_eq_getElem_cons h, List.set_append_right _ _ (by rw [marks_len]; omega), marks_len, Nat.sub_self, List.set_cons_zero]
 unfold marks
 rw [List.range_succ, List.map_append]
 simp
theorem markTo_end (xs : List Int) (k : Int) : markTo xs k xs.length = marks k xs.length := by simp [markTo]
theorem markIntS_ok (κ : Key) (hκ : κ = .n 77 ∨ κ = .l 77) (xs : List Int) (k : Int) (hx : xs.length ≤ 1048576) (h0 : 0 ≤ k) (h1 : k ≤ 1073741824) (H0 : Key → Option Ob) (hH : H0 κ = some (.ds 3 1 (xs.map encInt))) :
  IOCall EE 23 [.ref κ 0 xs.length, i64 k] H0 (fun r H1 => r = i64 (k + xs.length) ∧ H1 κ = some (.ds 3 1 ((marks k xs.length).map encInt)) ∧ ∀ κ', isK κ κ' = false → H1 κ' = none) := by
 rcases hκ with rfl | rfl
 ·refine io_of_AW (fn := Tryz.f23) (c := Tryz.f23.body.getD .skip) Tryz.func23 rfl (by kernel_rfl) rfl ?_
  have hat : At [(0, .ref (.n 77) 0 xs.length), (1, i64 k)] [(.n 77, .ds 3 1 (xs.map encInt))] [] ⟨fun i => [AV.ref (.n 77) 0 xs.length, i64 k].getD i .junk, H0⟩ := ⟨⟨rfl, rfl, trivial⟩, ⟨hH, trivial⟩, trivial⟩
  obtain ⟨τ, H, hf⟩ := hat.form
  rw [hf]
  conv => whnf
  refine aloop (fun n : Nat => [(0, .ref (.n 77) 0 xs.length), (1, i64 (k + (n : Int))), (5, i64 n)]) (fun n => [(.n 77, .ds 3 1 ((markTo xs k n).map encInt))]) (fun n => xs.length - n) (fun n => n ≤ xs.length) 0
   Weak.refl ⟨rfl, ?_, rfl, trivial⟩ ⟨?_, trivial⟩ (Nat.zero_le _) ?_
  ·show i64 k = i64 (k + ((0 : Nat) : Int))
   rw [show k + ((0 : Nat) : Int) = k by omega]
  ·show some (Ob.ds 3 1 (xs.map encInt)) = some (Ob.ds 3 1 ((markTo xs k 0).map encInt))
   simp [markTo, marks]
  intro n τ H hn
  have hn : n ≤ xs.length := hn
  conv => whnf
  refine kbi (fun h => ?_) (fun h => ?_)
  ·have hlt : n < xs.length := by simpa using h
   conv => whnf
   refine ⟨⟨by omega, by omega⟩, ?_⟩
   conv => whnf
   refine ⟨n + 1, by show n + 1 ≤ xs.length; omega, by show xs.length - (n + 1) < xs.length - n; omega, ⟨rfl, ?_, ?_, trivial⟩, ⟨?_, trivial⟩⟩
   ·show AV.d (.int .i64 (IntKind.i64.wrap ((k + (n : Int)) + 1))) = i64 (k + ((n + 1 : Nat) : Int))
    rw [wrap_id (by omega) (by omega)]
    exact congrArg i64 (by omega)
   ·show AV.d (.int .i64 (IntKind.i64.wrap ((n : Int) + 1))) = i64 ((n + 1 : Nat) : Int)
    rw [wrap_id (by omega) (by omega)]
    rfl
   ·show some (Ob.ds 3 1 (setEl ((markTo xs k n).map encInt) 1 (0 + (n : Int).toNat) 0 [di (k + (n : Int))])) = _
    rw [setEl_map, markTo_succ hlt]
  ·have hkk : n = xs.length := by
    have : ¬ n < xs.length := by simpa using h
    omega
   subst hkk
   conv => whnf
   refine ⟨_, Weak.refl, ?_⟩
   conv => whnf
   refine ⟨isK (.n 77), rfl, ?_, fun κ hκ => ?_⟩
   ·show some (Ob.ds 3 1 ((markTo xs k xs.length).map encInt)) = _
    rw [markTo_end]
   ·unfold lendH
    rw [hκ]; rfl
 ·refine io_of_AW (fn := Tryz.f23) (c := Tryz.f23.body.getD .skip) Tryz.func23 rfl (by kernel_rfl) rfl ?_
  have hat : At [(0, .ref (.l 77) 0 xs.length), (1, i64 k)] [(.l 77, .ds 3 1 (xs.map encInt))] [] ⟨fun i => [AV.ref (.l 77) 0 xs.length, i64 k].getD i .junk, H0⟩ := ⟨⟨rfl, rfl, trivial⟩, ⟨hH, trivial⟩, trivial⟩
  obtain ⟨τ, H, hf⟩ := hat.form
  rw [hf]
  conv => whnf
  refine aloop (fun n : Nat => [(0, .ref (.l 77) 0 xs.length), (1, i64 (k + (n : Int))), (5, i64 n)]) (fun n => [(.l 77, .ds 3 1 ((markTo xs k n).map encInt))]) (fun n => xs.length - n) (fun n => n ≤ xs.length) 0
   Weak.refl ⟨rfl, ?_, rfl, trivial⟩ ⟨?_, trivial⟩ (Nat.zero_le _) ?_
  ·show i64 k = i64 (k + ((0 : Nat) : Int))
   rw [show k + ((0 : Nat) : Int) = k by omega]
  ·show some (Ob.ds 3 1 (xs.map encInt)) = some (Ob.ds 3 1 ((markTo xs k 0).map encInt))
   simp [markTo, marks]
  intro n τ H hn
  have hn : n ≤ xs.length := hn
  conv => whnf
  refine kbi (fun h => ?_) (fun h => ?_)
  ·have hlt : n < xs.length := by simpa using h
   conv => whnf
   refine ⟨⟨by omega, by omega⟩, ?_⟩
   conv => whnf
   refine ⟨n + 1, by show n + 1 ≤ xs.length; omega, by show xs.length - (n + 1) < xs.length - n; omega, ⟨rfl, ?_, ?_, trivial⟩, ⟨?_, trivial⟩⟩
   ·show AV.d (.int .i64 (IntKind.i64.wrap ((k + (n : Int)) + 1))) = i64 (k + ((n + 1 : Nat) : Int))
    rw [wrap_id (by omega) (by omega)]
    exact congrArg i64 (by omega)
   ·show AV.d (.int .i64 (IntKind.i64.wrap ((n : Int) + 1))) = i64 ((n + 1 : Nat) : Int)
    rw [wrap_id (by omega) (by omega)]
    rfl
   ·show some (Ob.ds 3 1 (setEl ((markTo xs k n).map encInt) 1 (0 + (n : Int).toNat) 0 [di (k + (n : Int))])) = _
    rw [setEl_map, markTo_succ hlt]
  ·have hkk : n = xs.length := by
    have : ¬ n < xs.length := by simpa using h
    omega
   subst hkk
   conv => whnf
   refine ⟨_, Weak.refl, ?_⟩
   conv => whnf
   refine ⟨isK (.l 77), rfl, ?_, fun κ hκ => ?_⟩
   ·show some (Ob.ds 3 1 ((markTo xs k xs.length).map encInt)) = _
    rw [markTo_end]
   ·unfold lendH
    rw [hκ]; rfl
theorem heldIntS_ok (k : Int) (n : Nat) (hx : n ≤ 1048576) (h0 : 0 ≤ k) (h1 : k ≤ 1073741824) : CallsTo EE 24 [sl ((marks k n).map encInt), i64 k] (· = i64 (k + n)) := by
 have hml := marks_len k n
 refine callsTo_of_AW (fn := Tryz.f24) Tryz.func24 rfl (by kernel_rfl) rfl ?_
 conv => whnf
 refine aloop (fun j : Nat => [(0, sl ((marks k n).map encInt)), (1, i64 (k + (j : Int))), (5, i64 j)]) (fun j => []) (fun j => n - j) (fun j => j ≤ n) 0
  Weak.refl ⟨rfl, ?_, rfl, trivial⟩ trivial (Nat.zero_le _) ?_
 ·show i64 k = i64 (k + ((0 : Nat) : Int))
  rw [show k + ((0 : Nat) : Int) = k by omega]
 intro j τ H hj
 have hj : j ≤ n := hj
 conv => whnf
 refine kbi (fun h => ?_) (fun h => ?_)
 ·have hlt := lt_map h
  rw [hml] at hlt
  conv => whnf
  refine ⟨encInt (k + (j : Int)), ⟨by omega, ?_, rfl⟩, ?_⟩
  ·rw [List.getElem?_map, Int.toNat_natCast, marks_get hlt]; rfl
  conv => whnf
  refine kbi (fun h => absurd h (by simp)) (fun _ => ?_)
  conv => whnf
  refine ⟨j + 1, by show j + 1 ≤ n; omega, by show n - (j + 1) < n - j; omega, ⟨rfl, ?_, ?_, trivial⟩, trivial⟩
  ·show AV.d (.int .i64 (IntKind.i64.wrap ((k + (j : Int)) + 1))) = i64 (k + ((j + 1 : Nat) : Int))
   rw [wrap_id (by omega) (by omega)]
   exact congrArg i64 (by omega)
  ·show AV.d (.int .i64 (IntKind.i64.wrap ((j : Int) + 1))) = i64 ((j + 1 : Nat) : Int)
   rw [wrap_id (by omega) (by omega)]
   rfl
 ·have hkk : j = n := by
   have : ¬ j < n := by simpa [hml] using h
   omega
  subst hkk
  conv => whnf
  try rfl
end Ai
end
section
set_option maxRecDepth 100000
namespace Ai
open Go Go.Proofs
theorem setEl_len (els : List (List D)) (sz k off : Nat) (xs : List D) : (setEl els sz k off xs).length = els.length := by
 unfold setEl
 cases Nat.beq off 0 && Nat.beq xs.length sz <;> simp
theorem splice_len {x : D} : ∀ (c : List D) (off : Nat), off < c.length → (splice c off [x]).length = c.length
 | [], off, h => by simp at h
 |c :: cs, 0, h => by simp [splice]
 |c :: cs, off + 1, h => by
  have := splice_len (x := x) cs off (by simpa using h)
  simp [splice, this]
theorem setEl_4 {els : List (List D)} {k off : Nat} {x : D} (h : ∀ c ∈ els, c.length = 4) (ho : off < 4) : ∀ c ∈ setEl els 4 k off [x], c.length = 4 := by
 intro c hc
 unfold setEl at hc
 rw [show Nat.beq ([x] : List D).length 4 = false from rfl, Bool.and_false] at hc
 obtain ⟨i, hi, rfl⟩ := List.mem_iff_getElem.1 hc
 have hil : i < els.length := by simpa using hi
 have h4 := h _ (List.getElem_mem hil)
 simp only [cond_false, List.getElem_modify]
 split
 ·rw [splice_len _ _ (by omega)]; exact h4
 ·exact h4
theorem markOpS_ok (els : List (List D)) (k : Int) (n : Nat) (hn : n = els.length) (hx : n ≤ 1048576) (h4 : ∀ c ∈ els, c.length = 4) (h0 : 0 ≤ k) (h1 : k ≤ 1073741824) (H0 : Key → Option Ob) (hH : H0 (.n 50) = some (.ds 107 4 els)) :
  IOCall EE 85 [.ref (.n 50) 0 n, i64 k] H0 (fun r H1 => r = i64 (k + 4 * n) ∧ ∀ κ, H1 κ = none) := by
 refine io_of_AW (fn := Tryz.f85) (c := Tryz.f85.body.getD .skip) Tryz.func85 rfl (by kernel_rfl) rfl ?_
 have hat : At [(0, .ref (.n 50) 0 n), (1, i64 k)] [(.n 50, .ds 107 4 els)] [] ⟨fun i => [AV.ref (.n 50) 0 n, i64 k].getD i .junk, H0⟩ := ⟨⟨rfl, rfl, trivial⟩, ⟨hH, trivial⟩, trivial⟩
 obtain ⟨τ, H, hf⟩ := hat.form
 rw [hf]
 conv => whnf
 refine aloop (fun x : Nat × List (List D) => [(0, .ref (.n 50) 0 n), (1, i64 (k + 4 * (x.1 : Int))), (5, i64 x.1)]) (fun x => [(.n 50, .ds 107 4 x.2)]) (fun x => n - x.1) (fun x => x.1 ≤ n ∧ x.2.length = n ∧ ∀ c ∈ x.2, c.length = 4) (0, els)
  Weak.refl ⟨rfl, ?_, rfl, trivial⟩ ⟨rfl, trivial⟩ ⟨Nat.zero_le _, hn.symm, h4⟩ ?_
 ·show i64 k = i64 (k + 4 * ((0 : Nat) : Int))
  rw [show k + 4 * ((0 : Nat) : Int) = k by omega]
 rintro ⟨i, E⟩ τ H ⟨hi, hE, hE4⟩
 have hi : i ≤ n := hi
 have hE : E.length = n := hE
 have hE4 : ∀ c ∈ E, c.length = 4 := hE4
 conv => whnf
 refine kbi (fun h => ?_) (fun h => ?_)
 ·have hlt : i < n := by simpa using h
  conv => whnf
  refine ⟨⟨by show 0 ≤ (i : Int); omega, by show (i : Int) < n; omega⟩, ?_⟩
  conv => whnf
  refine ⟨⟨by show 0 ≤ (i : Int); omega, by show (i : Int) < n; omega⟩, ?_⟩
  conv => whnf
  refine ⟨⟨by show 0 ≤ (i : Int); omega, by show (i : Int) < n; omega⟩, ?_⟩
  conv => whnf
  refine ⟨⟨by show 0 ≤ (i : Int); omega, by show (i : Int) < n; omega⟩, ?_⟩
  conv => whnf
  refine ⟨(i + 1, setEl (setEl (setEl (setEl E 4 (0 + (i : Int).toNat) (0 + 0) [.int .i64 (k + 4 * (i : Int))]) 4 (0 + (i : Int).toNat) (0 + 1) [.int .i64 (IntKind.i64.wrap (k + 4 * (i : Int) + 1))]) 4 (0 + (i : Int).toNat) (0 + 2) [.int .i64 (IntKind.i64.wrap (IntKind.i64.wrap (k + 4 * (i : Int) + 1) + 1))]) 4 (0 + (i : Int).toNat) (0 + 3) [.flt (FloatKind.f64.nearest (IntKind.i64.wrap (IntKind.i64.wrap (IntKind.i64.wrap (k + 4 * (i : Int) + 1) + 1) + 1)))]), ⟨by show i + 1 ≤ n; omega, ?_, ?_⟩, by show n - (i + 1) < n - i; omega, ⟨rfl, ?_, ?_, trivial⟩, ⟨rfl, trivial⟩⟩
  ·dsimp only
   rw [setEl_len, setEl_len, setEl_len, setEl_len, hE]
  ·dsimp only
   refine setEl_4 (setEl_4 (setEl_4 (setEl_4 hE4 ?_) ?_) ?_) ?_ <;> omega
  ·show AV.d (.int .i64 (IntKind.i64.wrap (IntKind.i64.wrap (IntKind.i64.wrap (IntKind.i64.wrap ((k + 4 * (i : Int)) + 1) + 1) + 1) + 1))) = i64 (k + 4 * ((i + 1 : Nat) : Int))
   rw [wrap_id (n := k + 4 * (i : Int) + 1) (by omega) (by omega), wrap_id (n := k + 4 * (i : Int) + 1 + 1) (by omega) (by omega), wrap_id (n := k + 4 * (i : Int) + 1 + 1 + 1) (by omega) (by omega), wrap_id (n := k + 4 * (i : Int) + 1 + 1 + 1 + 1) (by omega) (by omega)]
   exact congrArg i64 (by omega)
  ·show AV.d (.int .i64 (IntKind.i64.wrap ((i : Int) + 1))) = i64 ((i + 1 : Nat) : Int)
   rw [wrap_id (by omega) (by omega)]
   rfl
 ·conv => whnf
  have hkk : i = n := by
   have : ¬ i < n := by simpa using h
   omega
  subst hkk
  refine ⟨_, Weak.refl, ?_⟩
  conv => whnf
  exact ⟨fun _ => false, rfl, fun κ => rfl⟩
end Ai
end
section
set_option maxRecDepth 100000
namespace Ai
open Go Go.Proofs
theorem io_congr {g : FuncId} {xs ys : List AV} {H0 : Key → Option Ob} {Post : AV → (Key → Option Ob) → Prop} (h : IOCall EE g xs H0 Post) (e : ys = xs) : IOCall EE g ys H0 Post := by rw [e]; exact h
def rowM (subs : List (List (List D))) (i j : Nat) : List AV := if j < i then [.junk] else [.ref (.s 903 j) 0 (subs.getD j []).length]
def rowsM (subs : List (List (List D))) (i : Nat) : List (List AV) := (List.range subs.length).map (rowM subs i)
def famM (subs : List (List (List D))) (i j : Nat) : Option Ob := if j < i then none else (subs[j]?).map (.ds 107 4)
theorem rowsM_get {subs : List (List (List D))} {i j : Nat} (h : j < subs.length) : (rowsM subs i)[j]? = some (rowM subs i j) := by simp [rowsM, h]
theorem rowsM_map {subs : List (List (List D))} {i i' : Nat} (f : List AV → List AV) (h : ∀ j, f (rowM subs i j) = rowM subs i' j) : (rowsM subs i).map f = rowsM subs i' := by
 unfold rowsM
 rw [List.map_map]
 exact List.map_congr_left fun j _ => h j
theorem famM_ren (f : Key → Key) (subs : List (List (List D))) (i j : Nat) : (famM subs i j).map (renO f) = famM subs i j := by
 unfold famM
 split
 ·rfl
 ·cases subs[j]? <;> rfl
theorem famM_scr (p : Key → Bool) (subs : List (List (List D))) (i j : Nat) : (famM subs i j).map (scrPO p) = famM subs i j := by
 unfold famM
 split
 ·rfl
 ·cases subs[j]? <;> rfl
def tot (subs : List (List (List D))) (i : Nat) : Nat := ((subs.take i).map List.length).sum
theorem tot_succ {subs : List (List (List D))} {i : Nat} (h : i < subs.length) : tot subs (i + 1) = tot subs i + subs[i].length := by
 unfold tot
 rw [List.take_succ_eq_append_getElem h, List.map_append, List.sum_append]
 simp
theorem tot_le (subs : List (List (List D))) (i : Nat) : tot subs i ≤ tot subs subs.length := by
 unfold tot
 rw [List.take_length]
 have : ∀ (l : List Nat) (i : Nat), (l.take i).sum ≤ l.sum := by
  intro l
  induction l with
  |nil => simp
  |cons x xs ih =>
   intro i
   cases i with
   |zero => simp
   |succ i => simp only [List.take_succ_cons, List.sum_cons]; have := ih i; omega
 rw [List.map_take]
 exact this _ i
theorem markOpSS_ok (subs : List (List (List D))) (k : Int) (hx : subs.length ≤ 1048576) (hs : ∀ q ∈ subs, ∀ c ∈ q, c.length = 4) (ht : tot subs subs.length ≤ 1048576) (h0 : 0 ≤ k) (h1 : k ≤ 1048576) (H0 : Key → Option Ob)
  (hH : H0 (.n 903) = some (.rs 104 1 (rowsM subs 0))) (hF : ∀ j, H0 (.s 903 j) = famM subs 0 j) :
  IOCall EE 51 [.dref (.n 903) subs.length, i64 k] H0 (fun r H1 => r = i64 (k + 4 * tot subs subs.length) ∧ ∀ κ, H1 κ = none) := by
 refine io_of_AW (fn := Tryz.f51) (c := Tryz.f51.body.getD .skip) Tryz.func51 rfl (by kernel_rfl) rfl ?_
 have hat : At [(0, .dref (.n 903) subs.length), (1, i64 k)] [(.n 903, .rs 104 1 (rowsM subs 0))] [(903, famM subs 0)] ⟨fun i => [AV.dref (.n 903) subs.length, i64 k].getD i .junk, H0⟩ := ⟨⟨rfl, rfl, trivial⟩, ⟨hH, trivial⟩, ⟨hF, trivial⟩⟩
 obtain ⟨τ, H, hf⟩ := hat.form
 rw [hf]
 conv => whnf
 refine aloopF (fun i : Nat => [(0, .dref (.n 903) subs.length), (1, i64 (k + 4 * (tot subs i : Int))), (5, i64 i)]) (fun i => [(.n 903, .rs 104 1 (rowsM subs i))]) (fun i => [(903, famM subs i)]) (fun i => subs.length - i) (fun i => i ≤ subs.length) 0
  Weak.refl ⟨rfl, ?_, rfl, trivial⟩ ⟨rfl, trivial⟩ ⟨fun j => ?_, trivial⟩ (Nat.zero_le _) ?_
 ·show i64 k = i64 (k + 4 * ((tot subs 0 : Nat) : Int))
  rw [show k + 4 * ((tot subs 0 : Nat) : Int) = k by simp [tot]]
 ·rfl
 intro i τ H hi
 have hi : i ≤ subs.length := hi
 have hti := tot_le subs i
 conv => whnf
 refine kbi (fun h => ?_) (fun h => ?_)
 ·have hlt : i < subs.length := by simpa using h
  conv => whnf
  refine ⟨⟨by omega, by omega⟩, ?_⟩
  conv => whnf
  have hgi : subs.getD i [] = subs[i] := by simp [List.getD_eq_getElem?_getD, hlt]
  have hrow : rowM subs i i = [.ref (.s 903 i) 0 subs[i].length] := by unfold rowM; rw [if_neg (by omega), hgi]
  have hfi : famM subs i i = some (.ds 107 4 subs[i]) := by unfold famM; rw [if_neg (by omega), List.getElem?_eq_getElem hlt]; rfl
  refine ⟨[.ref (.s 903 i) 0 subs[i].length], ⟨?_, Nat.le_refl _⟩, ?_⟩
  ·rw [Int.toNat_natCast, rowsM_get hlt, hrow]
  conv => whnf
  have hsw : swp (.n 50) (.s 903 i) (.s 903 i) = .n 50 := by simp [swp, Key.beq]
  have hts := tot_succ hlt
  have hti2 := tot_le subs (i + 1)
  split
  case' h_1 => conv => whnf
  case' h_1 => refine .inr (.inr (.inr (.inl ?_)))
  case' h_2 => refine .inr (.inr (.inl ?_))
  all_goals
   refine ⟨_, 85, [], weak_sws 50 903 i, rfl, 999, 0, isK (.n 50), (fun r H1 => r = i64 ((k + 4 * (tot subs i : Int)) + 4 * (subs[i].length : Nat)) ∧ ∀ κ, H1 κ = none), ?_, rfl, ?_⟩
   ·refine io_congr (markOpS_ok subs[i] (k + 4 * (tot subs i : Int)) subs[i].length rfl (by omega) (hs _ (List.getElem_mem hlt)) (by omega) (by omega) _ ?_) ?_
    ·show Option.map _ (Option.map _ (Option.map _ (famM subs i i))) = _
     rw [hfi]
     rfl
    ·show [scrP _ (.ref (swp (.n 999) (.l 0) (swp (.n 50) (.s 903 i) (.s 903 i))) 0 subs[i].length), _] = _
     rw [hsw]
     rfl
   ·rintro r H1 ⟨rfl, q⟩
    refine ⟨fun κ _ => q κ, fun n hn => (by cases hn), ?_⟩
    conv => whnf
    have hne : ∀ j, j ≠ i → swp (.n 50) (.s 903 i) (.s 903 j) = .s 903 j := fun j hj => by simp [swp, Key.beq, nbeq_ne hj]
    refine ⟨i + 1, _, weak_sws 50 903 i, by show i + 1 ≤ subs.length; omega, by show subs.length - (i + 1) < subs.length - i; omega, ⟨rfl, ?_, ?_, trivial⟩, ⟨?_, trivial⟩, ⟨fun j => ?_, trivial⟩⟩
    ·show i64 (k + 4 * ((tot subs i : Nat) : Int) + 4 * ((subs[i].length : Nat) : Int)) = i64 (k + 4 * ((tot subs (i + 1) : Nat) : Int))
     rw [hts]
     exact congrArg i64 (by omega)
    ·show AV.d (.int .i64 (IntKind.i64.wrap ((i : Int) + 1))) = i64 ((i + 1 : Nat) : Int)
     rw [wrap_id (by omega) (by omega)]
     rfl
    ·show some (Ob.rs 104 1 ((((((rowsM subs i).map (renL (swp (.n 50) (.s 903 i)))).map (renL (swp (.n 999) (.l 0)))).map (scrPL (notL (isK (.n 50))))).map (renL (swp (.n 999) (.l 0)))).map (renL (swp (.n 50) (.s 903 i))))) = _
     rw [List.map_map, List.map_map, List.map_map, List.map_map]
     refine congrArg (fun x => some (Ob.rs 104 1 x)) (rowsM_map _ fun j => ?_)
     by_cases hj : j = i
     ·subst hj
      rw [hrow]
      unfold rowM
      rw [if_pos (by omega)]
      show renL _ (renL _ (scrPL _ (renL _ [AV.ref (swp (.n 50) (.s 903 j) (.s 903 j)) 0 _]))) = _
      rw [hsw]
      rfl
     ·unfold rowM
      by_cases hji : j < i
      ·rw [if_pos hji, if_pos (by omega)]
       rfl
      ·rw [if_neg hji, if_neg (by omega)]
       show renL _ (renL _ (scrPL _ (renL _ [AV.ref (swp (.n 50) (.s 903 i) (.s 903 j)) 0 _]))) = _
       rw [hne j hj]
       show [AV.ref (swp (.n 50) (.s 903 i) (.s 903 j)) 0 _] = _
       rw [hne j hj]
    ·show (St.H _ (swp (.n 50) (.s 903 i) (.s 903 j))).map _ = _
     by_cases hj : j = i
     ·subst hj
      rw [hsw]
      show Option.map _ (Option.map _ (H1 (.n 50))) = _
      rw [q]
      unfold famM
      rw [if_pos (by omega)]
      rfl
     ·rw [hne j hj]
      show Option.map _ (Option.map _ (Option.map _ (Option.map _ (Option.map _ (St.H _ (swp (.n 50) (.s 903 i) (.s 903 j))))))) = _
      rw [hne j hj]
      show Option.map _ (Option.map _ (Option.map _ (Option.map _ (Option.map _ (famM subs i j))))) = _
      rw [famM_ren, famM_ren, famM_scr, famM_ren, famM_ren]
      unfold famM
      by_cases hji : j < i
      ·rw [if_pos hji, if_pos (by omega)]
      ·rw [if_neg hji, if_neg (by omega)]
 ·conv => whnf
  have hkk : i = subs.length := by
   have : ¬ i < subs.length := by simpa using h
   omega
  subst hkk
  refine ⟨_, Weak.refl, ?_⟩
  conv => whnf
  exact ⟨fun _ => false, rfl, fun κ => rfl⟩
end Ai
end
section
namespace Ai
open Go Go.RowKit
theorem calls_of_io {E : Env} {g : FuncId} {xs : List AV} {f : Nat} {cs : List AV} (hok : OwnOK cs) (h : IOCall E g xs (fun _ => none) (fun r H1 => r = ownR f cs ∧ ∀ κ, ownH cs κ ≠ none → H1 κ = ownH cs κ)) : CallsTo E g xs (· = .ownF f cs) := by
 intro w A vs hI hr
 have hH : HRel E ⟨fun b => A b ∨ w.heap.size ≤ b, fun _ => False, fun _ => none, fun _ => none⟩ w (fun _ => none) (fun _ => none) w :=
  ⟨Below.refl _ _, hI, fun o ob ho => (by cases ho), fun o o' p p' ho => absurd rfl ho, fun b hb => .inl (.inr hb), fun b hb => hb.elim, fun n hn => absurd rfl hn⟩
 refine (h w _ _ w vs hH hr.1 fun i a v ha hv => ?_).mono ?_
 ·exact (hr.2 i a v ha hv).lift fun b hb => ⟨hb.1, fun o ho => absurd rfl ho, .inl hb.2⟩
 ·rintro v w' ⟨r, H1, m1, ⟨rfl, hq⟩, hH1, hv⟩
  exact ⟨_, rfl, hH1.below, own_core (A := ⟨fun b => A b ∨ w.heap.size ≤ b, fun _ => False, fun _ => none, fun _ => none⟩) hH1.toS (fun b hb => hb) hok hq hv⟩
end Ai
end
section
set_option maxRecDepth 100000
namespace Ai
open Go Go.Proofs
def lendP : Key → Bool
 | .n k => Nat.beq k 903
 | .s o _ => Nat.beq o 903
 | .l _ => false
theorem rowsM0_scr {p : Key → Bool} (subs : List (List (List D))) (hp : ∀ j, p (.s 903 j) = false) : (rowsM subs 0).map (scrPL p) = rowsM subs 0 :=
 rowsM_map _ fun j => by
  unfold rowM
  rw [if_neg (by omega)]
  simp [scrPL, scrP, hp j]
theorem rowsM0_ren {f : Key → Key} (subs : List (List (List D))) (hf : ∀ j, f (.s 903 j) = .s 903 j) : (rowsM subs 0).map (renL f) = rowsM subs 0 :=
 rowsM_map _ fun j => by
  unfold rowM
  rw [if_neg (by omega)]
  simp [renL, ren, hf j]
theorem markProg_ok (c l d : Int) (subs : List (List (List D))) (k : Int) (hx : subs.length ≤ 1048576) (hs : ∀ q ∈ subs, ∀ c ∈ q, c.length = 4) (ht : tot subs subs.length ≤ 1048576) (h0 : 0 ≤ k) (h1 : k ≤ 1048576) (H0 : Key → Option Ob)
  (hH : H0 (.n 903) = some (.rs 104 1 (rowsM subs 0))) (hF : ∀ j, H0 (.s 903 j) = famM subs 0 j) :
  IOCall EE 22 [.agg [i64 c, i64 l, i64 d, .dref (.n 903) subs.length], i64 k] H0 (fun r H1 => r = i64 (k + 4 * tot subs subs.length) ∧ ∀ κ, H1 κ = none) := by
 refine io_of_AW (fn := Tryz.f22) (c := Tryz.f22.body.getD .skip) Tryz.func22 rfl (by kernel_rfl) rfl ?_
 have hat : At [(0, .agg [i64 c, i64 l, i64 d, .dref (.n 903) subs.length]), (1, i64 k)] [(.n 903, .rs 104 1 (rowsM subs 0))] [(903, famM subs 0)] ⟨fun i => [AV.agg [i64 c, i64 l, i64 d, .dref (.n 903) subs.length], i64 k].getD i .junk, H0⟩ := ⟨⟨rfl, rfl, trivial⟩, ⟨hH, trivial⟩, ⟨hF, trivial⟩⟩
 obtain ⟨τ, H, hf⟩ := hat.form
 rw [hf]
 conv => whnf
 refine .inr (.inl ⟨999, 0, lendP, (fun r H1 => r = i64 (k + 4 * tot subs subs.length) ∧ ∀ κ, H1 κ = none), ?_, rfl, ?_⟩)
 ·refine io_congr (markOpSS_ok subs k hx hs ht h0 h1 _ ?_ fun j => ?_) rfl
  ·show some (Ob.rs 104 1 ((((rowsM subs 0).map (scrPL (isK (.n 2)))).map (renL (swp (.n 999) (.l 0)))).map (scrPL (fun o => !lendP o)))) = _
   rw [rowsM0_scr subs (fun j => rfl), rowsM0_ren subs (fun j => rfl), rowsM0_scr subs (fun j => rfl)]
  ·show Option.map _ (Option.map _ (Option.map _ (famM subs 0 j))) = _
   rw [famM_scr, famM_ren, famM_scr]
 ·rintro r H1 ⟨rfl, q⟩
  refine ⟨fun κ _ => q κ, fun n hn => (by cases hn), ?_⟩
  conv => whnf
  refine ⟨_, Weak.refl, ?_⟩
  conv => whnf
  exact ⟨fun _ => false, rfl, fun κ => rfl⟩
def opsD (r : List OpL) : List (List D) := r.map encOp
def opSubs (p : ProgL) : List (List (List D)) := p.rs.map opsD
def rowT (subs : List (List (List D))) (i j : Nat) : List AV := if j < i then [.ref (.s 900 j) 0 (subs.getD j []).length] else [.d .nil]
def rowsT (subs : List (List (List D))) (i : Nat) : List (List AV) := (List.range subs.length).map (rowT subs i)
def famT (subs : List (List (List D))) (i j : Nat) : Option Ob := if j < i then (subs[j]?).map (.ds 107 4) else none
theorem rowsT_zero (subs : List (List (List D))) : rowsT subs 0 = List.replicate subs.length [.d .nil] := by
 apply List.ext_getElem?
 intro j
 simp only [rowsT, List.getElem?_map, List.getElem?_replicate, List.getElem?_range']
 by_cases h : j < subs.length
 ·rw [if_pos h, List.getElem?_eq_getElem (by simpa using h)]
  simp [rowT]
 ·rw [if_neg h, List.getElem?_eq_none (by simpa using h)]
  rfl
theorem rowsT_map {subs : List (List (List D))} {i i' : Nat} (f : List AV → List AV) (h : ∀ j, f (rowT subs i j) = rowT subs i' j) : (rowsT subs i).map f = rowsT subs i' := by
 unfold rowsT
 rw [List.map_map]
 exact List.map_congr_left fun j _ => h j
theorem rowsT_scr {p : Key → Bool} (subs : List (List (List D))) (i : Nat) (hp : ∀ j, p (.s 900 j) = false) : (rowsT subs i).map (scrPL p) = rowsT subs i :=
 rowsT_map _ fun j => by
  unfold rowT
  split
  ·simp [scrPL, scrP, hp j]
  ·rfl
theorem famT_ren (f : Key → Key) (subs : List (List (List D))) (i j : Nat) : (famT subs i j).map (renO f) = famT subs i j := by
 unfold famT
 split
 ·cases subs[j]? <;> rfl
 ·rfl
theorem famT_scr (p : Key → Bool) (subs : List (List (List D))) (i j : Nat) : (famT subs i j).map (scrPO p) = famT subs i j := by
 unfold famT
 split
 ·cases subs[j]? <;> rfl
 ·rfl
theorem rowsT_put {subs : List (List (List D))} {k : Nat} (h : k < subs.length) : ((setElR (rowsT subs k) 1 k 0 [.ref (.n 20) 0 subs[k].length]).map (renL (swp (.n 20) (.s 900 k)))) = rowsT subs (k + 1) := by
 have hlen : (rowsT subs k).length = subs.length := by simp [rowsT]
 apply List.ext_getElem?
 intro j
 by_cases hj : j = k
 ·subst hj
  rw [List.getElem?_map, setR_eq (c := rowT subs j j) (c' := [.ref (.n 20) 0 subs[j].length]) (by simp [rowsT, h]) rfl]
  simp only [rowsT, List.getElem?_map, List.getElem?_range h, Option.map_some, Option.some.injEq]
  unfold rowT
  rw [if_pos (by omega)]
  have e : swp (.n 20) (.s 900 j) (.n 20) = .s 900 j := by simp [swp, Key.beq]
  simp [renL, ren, e, List.getD_eq_getElem?_getD, h]
 ·by_cases hl : j < subs.length
  ·rw [List.getElem?_map, setR_ne hj (c := rowT subs k j) (by simp [rowsT, hl])]
   simp only [rowsT, List.getElem?_map, List.getElem?_range hl, Option.map_some, Option.some.injEq]
   have e : swp (.n 20) (.s 900 k) (.s 900 j) = .s 900 j := by simp [swp, Key.beq, nbeq_ne hj]
   unfold rowT
   by_cases hjk : j < k
   ·rw [if_pos hjk, if_pos (by omega)]
    simp [renL, ren, e]
   ·rw [if_neg hjk, if_neg (by omega)]
    simp [renL, ren]
  ·rw [List.getElem?_eq_none (by simp [setElR]; simp [hlen]; omega), List.getElem?_eq_none (by simp [rowsT]; omega)]
def lend9 : Key → Bool
 | .n k => Nat.beq k 900
 | .s o _ => Nat.beq o 900
 | .l _ => false
theorem own1_n {x : AV} {q : Nat} (h : q ≠ 900) : ownH [x] (.n q) = none := by
 unfold ownH
 cases hb : Nat.blt q 900 with
 |true => simp only [hb, cond_true]
 |false =>
  have : ¬ q < 900 := by
   intro e
   have : Nat.blt q 900 = true := by simpa [Nat.blt_eq] using e
   rw [this] at hb; cases hb
  have : ([x] : List AV)[q - 900]? = none := List.getElem?_eq_none (by simp; omega)
  simp only [hb, cond_false, this]
theorem own1_s {x : AV} {q j : Nat} (h : q ≠ 900) : ownH [x] (.s q j) = none := by
 unfold ownH
 cases hb : Nat.blt q 900 with
 |true => simp only [hb, cond_true]
 |false =>
  have : ¬ q < 900 := by
   intro e
   have : Nat.blt q 900 = true := by simpa [Nat.blt_eq] using e
   rw [this] at hb; cases hb
  have : ([x] : List AV)[q - 900]? = none := List.getElem?_eq_none (by simp; omega)
  simp only [hb, cond_false, this]
theorem rowsT_own (xs : List (List OpL)) : rowsT (xs.map opsD) xs.length = ownRows 900 0 (xs.map fun _ => [.nil]) (xs.map opsD) := by
 unfold ownRows rowsT
 apply List.ext_getElem?
 intro j
 by_cases h : j < xs.length
 ·have h2 : j < (xs.map opsD).length := by simpa using h
  simp only [List.getElem?_map, List.getElem?_range h2, Option.map_some, List.getElem?_mapIdx, List.getElem?_eq_getElem h]
  unfold rowT
  rw [if_pos h]
  rfl
 ·rw [List.getElem?_eq_none (by simp; omega), List.getElem?_eq_none (by simp; omega)]
theorem toOpSS_own (xs : List (List OpL)) (hx : xs.length ≤ 1048576) (hx2 : ∀ x ∈ xs, x.length ≤ 1048576) : CallsTo EE 42 [sl (xs.map encRow)] (· = .ownF 1 [.uqd 104 1 0 107 4 (xs.map fun _ => [.nil]) (xs.map opsD)]) := by
 refine calls_of_io (fun v hv => ?_) ?_
 ·simp only [List.mem_cons, List.not_mem_nil, or_false] at hv
  subst hv
  show (xs.map _).length = (xs.map opsD).length
  simp
 refine io_of_AW (fn := Tryz.f42) (c := Tryz.f42.body.getD .skip) Tryz.func42 rfl (by kernel_rfl) rfl ?_
 conv => whnf
 refine ⟨by simp; omega, ?_⟩
 conv => whnf
 refine aloopF (fun k : Nat => [(0, sl (xs.map encRow)), (3, .dref (.n 900) xs.length), (4, i64 k)]) (fun k => [(.n 900, .rs 104 1 (rowsT (xs.map opsD) k))]) (fun k => [(900, famT (xs.map opsD) k)]) (fun k => xs.length - k) (fun k => k ≤ xs.length) 0
  ((weak_cvr (.n 7) rfl).trans (weak_sw 7 900)) ?_ ?_ ?_ (Nat.zero_le _) ?_
 ·exact ⟨rfl, by show AV.dref (.n 900) (((xs.map encRow).length : Nat) : Int).toNat = _; simp, rfl, trivial⟩
 ·refine ⟨?_, trivial⟩
  show some (Ob.rs 104 1 (((List.replicate (((xs.map encRow).length : Nat) : Int).toNat [D.nil]).map (List.map AV.d)).map (renL (swp (.n 7) (.n 900))))) = _
  rw [rowsT_zero]
  simp [renL, ren]
 ·refine ⟨fun j => ?_, trivial⟩
  unfold famT
  rw [if_neg (by omega)]
  rfl
 intro k τ H hk
 have hk : k ≤ xs.length := hk
 conv => whnf
 refine kbi (fun h => ?_) (fun h => ?_)
 ·have hlt := lt_map h
  have hlt2 : k < (xs.map opsD).length := by simpa using hlt
  have hgk : (xs.map opsD)[k] = xs[k].map encOp := by simp [opsD]
  conv => whnf
  refine ⟨encRow xs[k], map_get encRow hlt rfl, ?_⟩
  conv => whnf
  refine ⟨_, toOpS_ok xs[k] (hx2 _ (List.getElem_mem hlt)), ?_⟩
  rintro r rfl
  refine .inr ⟨_, rfl, ?_⟩
  conv => whnf
  refine ⟨⟨by omega, by omega⟩, ?_⟩
  conv => whnf
  refine ⟨k + 1, _, weak_sws 20 900 k, by show k + 1 ≤ xs.length; omega, by show xs.length - (k + 1) < xs.length - k; omega, ⟨rfl, rfl, next_i64 hlt (by omega), trivial⟩, ⟨?_, trivial⟩, ⟨fun j => ?_, trivial⟩⟩
  ·show some (Ob.rs 104 1 ((setElR ((rowsT (xs.map opsD) k).map (scrPL (isK (.n 20)))) 1 ((k : Int)).toNat 0 [.ref (.n 20) 0 (xs[k].map encOp).length]).map (renL (swp (.n 20) (.s 900 k))))) = _
   rw [rowsT_scr _ _ (fun j => rfl), Int.toNat_natCast, ← hgk, rowsT_put hlt2]
  ·show (St.H _ (swp (.n 20) (.s 900 k) (.s 900 j))).map _ = _
   by_cases hj : j = k
   ·subst hj
    have e : swp (.n 20) (.s 900 j) (.s 900 j) = .n 20 := by simp [swp, Key.beq]
    rw [e]
    unfold famT
    rw [if_pos (by omega), List.getElem?_eq_getElem hlt2, hgk]
    rfl
   ·have e : swp (.n 20) (.s 900 k) (.s 900 j) = .s 900 j := by simp [swp, Key.beq, nbeq_ne hj]
    rw [e]
    show Option.map _ (Option.map _ (famT (xs.map opsD) k j)) = _
    rw [famT_scr, famT_ren]
    unfold famT
    by_cases hjk : j < k
    ·rw [if_pos hjk, if_pos (by omega)]
    ·rw [if_neg hjk, if_neg (by omega)]
 ·have hkk : k = xs.length := by
   have : ¬ k < xs.length := by simpa using h
   omega
  subst hkk
  conv => whnf
  refine ⟨_, Weak.refl, ?_⟩
  conv => whnf
  refine ⟨lend9, ?_, fun κ hκ => ?_⟩
  ·show AV.dref (.n 900) xs.length = AV.dref (.n 900) (xs.map _).length
   rw [List.length_map]
  ·cases κ with
   |l n => exact absurd rfl hκ
   |n q =>
    by_cases hq : q = 900
    ·subst hq
     show some (Ob.rs 104 1 ((rowsT (xs.map opsD) xs.length).map (scrPL (fun o => !lend9 o)))) = some (Ob.rs 104 1 (ownRows 900 0 (xs.map fun _ => [.nil]) (xs.map opsD)))
     rw [rowsT_scr _ _ (fun j => rfl), rowsT_own]
    ·exact absurd (own1_n hq) hκ
   |s o j =>
    by_cases hq : o = 900
    ·subst hq
     show Option.map _ (famT (xs.map opsD) xs.length j) = ((xs.map opsD)[j]?).map (Ob.ds 107 4)
     rw [famT_scr]
     unfold famT
     by_cases hj : j < xs.length
     ·rw [if_pos hj]
     ·rw [if_neg hj, List.getElem?_eq_none (by simp; omega)]
      rfl
    ·exact absurd (own1_s hq) hκ
end Ai
end
section
set_option maxRecDepth 100000
namespace Ai
open Go Go.Proofs
def ownPg (p : ProgL) : List AV := [i64 p.cells, i64 p.locks, i64 p.conds, .uqd 104 1 0 107 4 (p.rs.map fun _ => [.nil]) (opSubs p)]
theorem ownRows_n (o : Nat) (p : ProgL) : ownRows o 0 (p.rs.map fun _ => [.nil]) (opSubs p) = (List.range p.rs.length).map fun j => [.ref (.s o j) 0 ((opSubs p).getD j []).length] := by
 unfold ownRows
 apply List.ext_getElem?
 intro j
 by_cases h : j < p.rs.length
 ·simp [h]
 ·rw [List.getElem?_eq_none (by simp; omega), List.getElem?_eq_none (by simp; omega)]
theorem ownRows_map {o o' : Nat} {p : ProgL} (f : List AV → List AV) (h : ∀ j n, f [.ref (.s o j) 0 n] = [.ref (.s o' j) 0 n]) : (ownRows o 0 (p.rs.map fun _ => [.nil]) (opSubs p)).map f = ownRows o' 0 (p.rs.map fun _ => [.nil]) (opSubs p) := by
 rw [ownRows_n, ownRows_n, List.map_map]
 exact List.map_congr_left fun j _ => h j _
theorem ownRows_M (p : ProgL) : ownRows 903 0 (p.rs.map fun _ => [.nil]) (opSubs p) = rowsM (opSubs p) 0 := by
 rw [ownRows_n]
 unfold rowsM
 rw [show (opSubs p).length = p.rs.length by simp [opSubs]]
 refine List.map_congr_left fun j _ => ?_
 unfold rowM
 rw [if_neg (by omega)]
theorem toProg_own (p : ProgL) (h : p.rs.length ≤ 1048576 ∧ ∀ x ∈ p.rs, x.length ≤ 1048576) : CallsTo EE 13 [agg (encProg p)] (· = .own (ownPg p)) := by
 refine callsTo_of_AW (fn := Tryz.f13) Tryz.func13 rfl (by kernel_rfl) rfl ?_
 conv => whnf
 refine ⟨_, toOpSS_own _ h.1 h.2, ?_⟩
 rintro r rfl
 conv => whnf
 refine .inr (.inr ⟨ownPg p, _, weak_re shA, rfl, ?_, own_at ⟨trivial, trivial, trivial, ⟨?_, fun j q hq => ?_⟩, trivial⟩, rfl⟩)
 ·intro v hv
  simp only [ownPg, List.mem_cons, List.not_mem_nil, or_false] at hv
  rcases hv with rfl | rfl | rfl | rfl
  ·trivial
  ·trivial
  ·trivial
  ·show (p.rs.map _).length = (opSubs p).length
   simp [opSubs]
 ·show some (Ob.rs 104 1 ((ownRows 900 0 (p.rs.map fun _ => [.nil]) (opSubs p)).map (renL shA.f))) = some (Ob.rs 104 1 (ownRows 903 0 (p.rs.map fun _ => [.nil]) (opSubs p)))
  exact congrArg (fun x => some (Ob.rs 104 1 x)) (ownRows_map _ fun j n => rfl)
 ·have hq : (opSubs p)[j]? = some q := hq
  have e : ownH [.uqd 104 1 0 107 4 (p.rs.map fun _ => [.nil]) (opSubs p)] (.s 900 j) = some (.ds 107 4 q) := by
   show ((opSubs p)[j]?).map (Ob.ds 107 4) = _
   rw [hq]
   rfl
  show Option.map (renO shA.f) (match ownH [.uqd 104 1 0 107 4 (p.rs.map fun _ => [.nil]) (opSubs p)] (.s 900 j) with | some ob => some ob | none => _) = _
  rw [e]
  rfl
end Ai
end
section
set_option maxRecDepth 100000
namespace Ai
open Go Go.Proofs Cyc
theorem ownPg_fam {p : ProgL} {j : Nat} : ownH (ownPg p) (.s 903 j) = famM (opSubs p) 0 j := by
 show ((opSubs p)[j]?).map (Ob.ds 107 4) = _
 unfold famM
 rw [if_neg (by omega)]
theorem fz_own {p : ProgL} {S : St} {n : Nat} (h1 : S.H (.n 903) = some (.rs 104 1 (rowsM (opSubs p) 0))) (h2 : ∀ j, S.H (.s 903 j) = famM (opSubs p) 0 j) (hn : n = p.rs.length) :
  FzC S [i64 p.cells, i64 p.locks, i64 p.conds, .dref (.n 903) n] (encProg p) := by
 subst hn
 refine ⟨di p.cells, _, rfl, rfl, di p.locks, _, rfl, rfl, di p.conds, _, rfl, rfl, .sl (p.rs.map encRow), _, rfl, ⟨_, rfl, viewR h1 (by simp) (by simp [rowsM, opSubs]) ?_⟩, rfl⟩
 intro j row d hr hd
 have hj : j < p.rs.length := by
  have := (List.getElem?_eq_some_iff.1 hd).1
  simpa using this
 have hjs : j < (opSubs p).length := by simpa [opSubs] using hj
 rw [rowsM_get hjs] at hr
 rw [List.getElem?_map, List.getElem?_eq_getElem hj] at hd
 simp only [Option.map_some, Option.some.injEq] at hr hd
 subst hr hd
 have hg : (opSubs p)[j] = p.rs[j].map encOp := by simp [opSubs, opsD]
 have h3 := h2 j
 unfold famM at h3
 rw [if_neg (by omega), List.getElem?_eq_getElem hjs, hg] at h3
 unfold rowM
 rw [if_neg (by omega)]
 simp [fz1s, fz1, h3, List.getD_eq_getElem?_getD, hjs, hg, encRow, List.take_of_length_le]
def lwF (p : ProgL) : List (Nat × (Nat → Option Ob)) := [(903, famM (opSubs p) 0)]
structure Sml (p : ProgL) (picks : List Int) : Prop where
 hl : picks.length ≤ 1048576
 hs : p.rs.length ≤ 1048576 ∧ ∀ x ∈ p.rs, x.length ≤ 1048576
 hz : p.size ≤ 1048576
def lwO3 (p : ProgL) (w : List Int) : List (Key × Ob) := [(.n 3, .vs 24 ((encProg p).map .d)), (.n 43, .ds 3 1 (w.map encInt))]
def lwO4 (p : ProgL) (w : List Int) : List (Key × Ob) := [(.n 3, .vs 24 ((encProg p).map .d)), (.n 43, .ds 3 1 ((marks 1 w.length).map encInt))]
theorem tot_size {p : ProgL} (h : p.size ≤ 1048576) : tot (opSubs p) (opSubs p).length ≤ 1048576 := by
 unfold ProgL.size sizeSS at h
 unfold tot opSubs
 rw [List.take_length, List.map_map]
 have e : (List.length ∘ opsD : List OpL → Nat) = List.length := by funext r; simp [opsD]
 rw [e]; omega
theorem ops4 (p : ProgL) : ∀ q ∈ opSubs p, ∀ c ∈ q, c.length = 4 := by
 intro q hq c hc
 obtain ⟨r, _, rfl⟩ := List.mem_map.1 hq
 obtain ⟨y, _, rfl⟩ := List.mem_map.1 hc
 rfl
end Ai
end
section
set_option maxRecDepth 100000
namespace Ai
open Go Go.Proofs Cyc
section
open Classical
variable {ok : List Int → Prop} {l : Nat}
theorem drop_sh {xs : List Int} {i l : Nat} (h : i < xs.length ∧ 0 < l) : (dropL xs i (min xs.length (i + l))).length < xs.length := by simp [dropL]; omega
noncomputable def inn (ok : List Int → Prop) (l : Nat) (xs : List Int) (i a : Nat) (w : Bool) : List Int × Nat × Bool :=
 if h : i < xs.length ∧ 0 < l then
  if ok (dropL xs i (min xs.length (i + l))) then inn ok l (dropL xs i (min xs.length (i + l))) i (a + 1) true else inn ok l xs (i + 1) (a + 1) w
 else (xs, a, w)
termination_by xs.length - i
decreasing_by
 ·have := drop_sh h; omega
 ·omega
theorem inn_end {xs : List Int} {i a : Nat} {w : Bool} (h : ¬ i < xs.length) : inn ok l xs i a w = (xs, a, w) := by
 rw [inn, dif_neg (fun q => h q.1)]
theorem inn_take {xs : List Int} {i a : Nat} {w : Bool} (h : i < xs.length) (h0 : 0 < l) (hk : ok (dropL xs i (min xs.length (i + l)))) : inn ok l xs i a w = inn ok l (dropL xs i (min xs.length (i + l))) i (a + 1) true := by
 rw [inn, dif_pos ⟨h, h0⟩, if_pos hk]
theorem inn_pass {xs : List Int} {i a : Nat} {w : Bool} (h : i < xs.length) (h0 : 0 < l) (hk : ¬ ok (dropL xs i (min xs.length (i + l)))) : inn ok l xs i a w = inn ok l xs (i + 1) (a + 1) w := by
 rw [inn, dif_pos ⟨h, h0⟩, if_neg hk]
theorem inn_facts : ∀ (n : Nat) (xs : List Int) (i a : Nat) (w : Bool), xs.length - i ≤ n → (inn ok l xs i a w).1.length ≤ xs.length ∧ (inn ok l xs i a w).2.1 ≤ a + n ∧ ((inn ok l xs i a w).2.2 = true → w = true ∨ (inn ok l xs i a w).1.length < xs.length) ∧ ((∀ x ∈ xs, 0 ≤ x) → ∀ x ∈ (inn ok l xs i a w).1, 0 ≤ x)
 | 0, xs, i, a, w, h => by
  rw [inn_end (by omega)]
  exact ⟨Nat.le_refl _, Nat.le_refl _, .inl, id⟩
 |n + 1, xs, i, a, w, h => by
  by_cases hi : i < xs.length ∧ 0 < l
  ·by_cases hk : ok (dropL xs i (min xs.length (i + l)))
   ·rw [inn_take hi.1 hi.2 hk]
    have hd := drop_sh hi
    obtain ⟨h1, h2, h3, h4⟩ := inn_facts n (dropL xs i (min xs.length (i + l))) i (a + 1) true (by omega)
    exact ⟨by omega, by omega, fun _ => .inr (by omega), fun h => h4 (drop_in h)⟩
   ·rw [inn_pass hi.1 hi.2 hk]
    obtain ⟨h1, h2, h3, h4⟩ := inn_facts n xs (i + 1) (a + 1) w (by omega)
    exact ⟨h1, by omega, h3, h4⟩
  ·rw [inn, dif_neg hi]
   exact ⟨Nat.le_refl _, by show a ≤ _; omega, .inl, id⟩
theorem inn_len (xs : List Int) (a : Nat) : (inn ok l xs 0 a false).1.length ≤ xs.length := (inn_facts _ xs 0 a false (Nat.le_refl _)).1
noncomputable def shr (ok : List Int → Prop) (l : Nat) (xs : List Int) (a : Nat) : List Int × Nat :=
 if h : 1 < l then shr ok (l / 2) (inn ok l xs 0 a false).1 (inn ok l xs 0 a false).2.1
 else if h : (inn ok l xs 0 a false).2.2 = true ∧ (inn ok l xs 0 a false).1.length < xs.length then shr ok l (inn ok l xs 0 a false).1 (inn ok l xs 0 a false).2.1
 else ((inn ok l xs 0 a false).1, (inn ok l xs 0 a false).2.1)
termination_by l + xs.length
decreasing_by
 ·have := inn_len (ok := ok) (l := l) xs a; omega
 ·omega
theorem shr_half {xs : List Int} {a : Nat} {r : List Int × Nat × Bool} (h : 1 < l) (hr : inn ok l xs 0 a false = r) : shr ok l xs a = shr ok (l / 2) r.1 r.2.1 := by
 rw [shr, dif_pos h, hr]
theorem shr_again {xs : List Int} {a : Nat} {r : List Int × Nat × Bool} (h : ¬ 1 < l) (hr : inn ok l xs 0 a false = r) (hw : r.2.2 = true) : shr ok l xs a = shr ok l r.1 r.2.1 := by
 have hf := (inn_facts (ok := ok) (l := l) _ xs 0 a false (Nat.le_refl _)).2.2.1
 rw [hr] at hf
 rw [shr, dif_neg h, hr, dif_pos ⟨hw, (hf hw).resolve_left (by simp)⟩]
theorem shr_end {xs : List Int} {a : Nat} {r : List Int × Nat × Bool} (h : ¬ 1 < l) (hr : inn ok l xs 0 a false = r) (hw : r.2.2 = false) : shr ok l xs a = (r.1, r.2.1) := by
 rw [shr, dif_neg h, hr, dif_neg (by rw [hw]; simp)]
end
noncomputable def shrinkL (p : ProgL) (picks : List Int) (sign : List UInt8) : List Int × Nat := shr (fun xs => Still p xs sign) (max 1 (picks.length / 2)) picks 0
theorem most_ok (x y : Int) : CallsTo EE 107 [i64 x, i64 y] (· = i64 (max x y)) := by
 refine callsTo_of_AW (fn := Tryz.f107) Tryz.func107 rfl (by kernel_rfl) rfl ?_
 conv => whnf
 refine kbi (fun h => ?_) (fun h => ?_)
 ·have h : x > y := of_decide_eq_true h
  conv => whnf
  exact congrArg i64 (by omega)
 ·have h : ¬ x > y := fun e => h (decide_eq_true e)
  conv => whnf
  exact congrArg i64 (by omega)
theorem least_ok (x y : Int) : CallsTo EE 108 [i64 x, i64 y] (· = i64 (min x y)) := by
 refine callsTo_of_AW (fn := Tryz.f108) Tryz.func108 rfl (by kernel_rfl) rfl ?_
 conv => whnf
 refine kbi (fun h => ?_) (fun h => ?_)
 ·have h : x < y := of_decide_eq_true h
  conv => whnf
  exact congrArg i64 (by omega)
 ·have h : ¬ x < y := fun e => h (decide_eq_true e)
  conv => whnf
  exact congrArg i64 (by omega)
structure ShrP (p : ProgL) (sign : List UInt8) (F : List Int × Nat) (l : Nat) (xs : List Int) (a : Nat) : Prop where
 fin : shr (fun xs => Still p xs sign) l xs a = F
 l0 : 1 ≤ l
 l1 : l ≤ 60
 len : xs.length ≤ 60
 nn : ∀ x ∈ xs, 0 ≤ x
 asked : a + 60 * (l + xs.length) ≤ 7260
structure InnP (p : ProgL) (sign : List UInt8) (l : Nat) (xs : List Int) (a : Nat) (c : List Int) (i b : Nat) (w : Bool) : Prop where
 fin : inn (fun xs => Still p xs sign) l c i b w = inn (fun xs => Still p xs sign) l xs 0 a false
 len : c.length ≤ xs.length
 il : i ≤ c.length
 nn : ∀ x ∈ c, 0 ≤ x
 asked : b + (c.length - i) ≤ a + xs.length
theorem InnP.take {p : ProgL} {sign : List UInt8} {l a i b : Nat} {xs c : List Int} {w : Bool} (h : InnP p sign l xs a c i b w) (h0 : 1 ≤ l) (hi : i < c.length) (hk : Still p (dropL c i (min c.length (i + l))) sign) :
  InnP p sign l xs a (dropL c i (min c.length (i + l))) i (b + 1) true ∧ (dropL c i (min c.length (i + l))).length < c.length := by
 have hd := drop_sh ⟨hi, h0⟩
 have hdl : i ≤ (dropL c i (min c.length (i + l))).length := by simp [dropL]; omega
 refine ⟨⟨by rw [← h.fin]; exact (inn_take (ok := fun xs => Still p xs sign) hi h0 hk).symm, by have := h.len; omega, hdl, drop_in h.nn, by have := h.asked; omega⟩, hd⟩
theorem InnP.pass {p : ProgL} {sign : List UInt8} {l a i b : Nat} {xs c : List Int} {w : Bool} (h : InnP p sign l xs a c i b w) (h0 : 1 ≤ l) (hi : i < c.length) (hk : ¬ Still p (dropL c i (min c.length (i + l))) sign) :
  InnP p sign l xs a c (i + 1) (b + 1) w :=
 ⟨by rw [← h.fin]; exact (inn_pass (ok := fun xs => Still p xs sign) hi h0 hk).symm, h.len, hi, h.nn, by have := h.asked; omega⟩
theorem InnP.end_ {p : ProgL} {sign : List UInt8} {l a i b : Nat} {xs c : List Int} {w : Bool} (h : InnP p sign l xs a c i b w) (hi : ¬ i < c.length) : inn (fun xs => Still p xs sign) l xs 0 a false = (c, b, w) := by
 rw [← h.fin]; exact inn_end hi
theorem ShrP.half {p : ProgL} {sign : List UInt8} {F : List Int × Nat} {l a b : Nat} {xs c : List Int} {w : Bool} (h : ShrP p sign F l xs a) (hl : 1 < l) (hr : inn (fun xs => Still p xs sign) l xs 0 a false = (c, b, w)) :
  ShrP p sign F (l / 2) c b ∧ l / 2 + c.length < l + xs.length := by
 have hf := inn_facts (ok := fun xs => Still p xs sign) (l := l) _ xs 0 a false (Nat.le_refl _)
 rw [hr] at hf
 obtain ⟨h1, h2, h3, h4⟩ := hf
 have h1 : c.length ≤ xs.length := h1
 have h2 : b ≤ a + (xs.length - 0) := h2
 have := h.len
 have := h.asked
 have := h.l1
 exact ⟨⟨(shr_half (ok := fun xs => Still p xs sign) hl hr).symm.trans h.fin, by omega, by omega, by omega, h4 h.nn, by omega⟩, by omega⟩
theorem ShrP.again {p : ProgL} {sign : List UInt8} {F : List Int × Nat} {l a b : Nat} {xs c : List Int} (h : ShrP p sign F l xs a) (hl : ¬ 1 < l) (hr : inn (fun xs => Still p xs sign) l xs 0 a false = (c, b, true)) :
  ShrP p sign F l c b ∧ l + c.length < l + xs.length := by
 have hf := inn_facts (ok := fun xs => Still p xs sign) (l := l) _ xs 0 a false (Nat.le_refl _)
 rw [hr] at hf
 obtain ⟨h1, h2, h3, h4⟩ := hf
 have h3 : c.length < xs.length := (h3 rfl).resolve_left (by simp)
 have h2 : b ≤ a + (xs.length - 0) := h2
 have := h.len
 have := h.asked
 exact ⟨⟨(shr_again (ok := fun xs => Still p xs sign) hl hr rfl).symm.trans h.fin, h.l0, h.l1, by omega, h4 h.nn, by omega⟩, by omega⟩
theorem ShrP.end_ {p : ProgL} {sign : List UInt8} {F : List Int × Nat} {l a b : Nat} {xs c : List Int} (h : ShrP p sign F l xs a) (hl : ¬ 1 < l) (hr : inn (fun xs => Still p xs sign) l xs 0 a false = (c, b, false)) : F = (c, b) :=
 h.fin.symm.trans (shr_end (ok := fun xs => Still p xs sign) hl hr rfl)
theorem ShrP.init (p : ProgL) (sign : List UInt8) {picks : List Int} (h : Picks6 picks) : ShrP p sign (shrinkL p picks sign) (max 1 (picks.length / 2)) picks 0 :=
 ⟨rfl, by omega, by have := h.1; omega, h.1, h.nn, by have := h.1; omega⟩
theorem l12Shrink_ok (p : ProgL) (hp : p.wf) (hg : p.goodS) (hv : p.flt) (picks : List Int) (sign : List UInt8) (h6 : Picks6 picks) : CallsTo EE 62 [agg (encProg p), sl (picks.map encInt), sv sign] (· = .tup [sl ((shrinkL p picks sign).1.map encInt), i64 (shrinkL p picks sign).2]) := by
 have h60 := h6.1
 have hP0 := ShrP.init p sign h6
 generalize shrinkL p picks sign = F at hP0 ⊢
 refine callsTo_of_AW (fn := Tryz.f62) Tryz.func62 rfl (by kernel_rfl) rfl ?_
 conv => whnf
 refine ⟨by omega, ?_⟩
 conv => whnf
 have hq : IntKind.i64.wrap (Int.tdiv ((picks.map encInt).length : Int) 2) = ((picks.length / 2 : Nat) : Int) := by
  rw [List.length_map, Int.tdiv_eq_ediv_of_nonneg (by omega), wrap_id (by omega) (by omega)]; omega
 have hm : max (1 : Int) ((picks.length / 2 : Nat) : Int) = ((max 1 (picks.length / 2) : Nat) : Int) := by omega
 have hmo := most_ok 1 ((picks.length / 2 : Nat) : Int)
 rw [hm, ← hq] at hmo
 refine ⟨_, hmo, ?_⟩
 rintro r rfl
 generalize max 1 (picks.length / 2) = l0 at hP0 ⊢
 conv => whnf
 refine aloop (fun x : List Int × Nat × Nat => [(1, sl (x.1.map encInt)), (2, sv sign), (3, .ptr (.n 3) 0), (8, i64 (x.2.2 : Int)), (9, i64 (x.2.1 : Int))]) (fun x => [(.n 3, .vs 31 ((encProg p).map .d))]) (fun x => x.2.1 + x.1.length) (fun x => ShrP p sign F x.2.1 x.1 x.2.2) (picks, l0, 0)
  Weak.refl ⟨rfl, rfl, rfl, rfl, rfl, trivial⟩ ⟨rfl, trivial⟩ hP0 ?_
 rintro ⟨xs, l, a⟩ τ H hP
 have hP : ShrP p sign F l xs a := hP
 conv => whnf
 refine aloop (fun x : List Int × Nat × Nat × Bool => [(1, sl (x.1.map encInt)), (2, sv sign), (3, .ptr (.n 3) 0), (8, i64 (x.2.2.1 : Int)), (9, i64 (l : Int)), (10, bv x.2.2.2), (11, i64 (x.2.1 : Int))]) (fun x => [(.n 3, .vs 31 ((encProg p).map .d))]) (fun x => x.1.length - x.2.1)
  (fun x => InnP p sign l xs a x.1 x.2.1 x.2.2.1 x.2.2.2) (xs, 0, a, false)
  Weak.refl ⟨rfl, rfl, rfl, rfl, rfl, rfl, rfl, trivial⟩ ⟨rfl, trivial⟩ ⟨rfl, Nat.le_refl _, Nat.zero_le _, hP.nn, by show a + (xs.length - 0) ≤ _; omega⟩ ?_
 rintro ⟨c, i, b, w⟩ τ H hI
 have hI : InnP p sign l xs a c i b w := hI
 have hcl := hI.len
 have hxl := hP.len
 have hl0 := hP.l0
 have hl1 := hP.l1
 have hA := hI.asked
 have hB := hP.asked
 conv => whnf
 refine kbi (fun h => ?_) (fun h => ?_)
 ·have hlt : i < c.length := by simpa using h
  have hdr := l12Drop_ok c i (min c.length (i + l)) (by omega) (by omega) (by omega)
  have hmi := least_ok ((c.map encInt).length : Int) (IntKind.i64.wrap ((i : Int) + (l : Int)))
  rw [show min ((c.map encInt).length : Int) (IntKind.i64.wrap ((i : Int) + (l : Int))) = ((min c.length (i + l) : Nat) : Int) by rw [List.length_map, wrap_id (by omega) (by omega)]; omega] at hmi
  have hb1 : AV.d (.int .i64 (IntKind.i64.wrap ((b : Int) + 1))) = i64 ((b + 1 : Nat) : Int) := by rw [wrap_id (by omega) (by omega)]; rfl
  have hst := l12Still_ok p hp hg hv (dropL c i (min c.length (i + l))) sign (drop_in hI.nn) (Nat.le_trans (drop_le (by omega)) (by omega))
  conv => whnf
  refine ⟨_, hmi, ?_⟩
  rintro r rfl
  conv => whnf
  refine ⟨_, hdr, ?_⟩
  rintro r rfl
  refine .inl ?_
  conv => whnf
  refine ocase hst (fun hk => ?_) (fun hk => ?_)
  ·obtain ⟨hI2, hsh⟩ := hI.take hl0 hlt hk
   conv => whnf
   refine ⟨(dropL c i (min c.length (i + l)), i, b + 1, true), hI2, by show (dropL c i (min c.length (i + l))).length - i < c.length - i; have := hI2.il; omega, ⟨rfl, rfl, rfl, hb1, rfl, rfl, rfl, trivial⟩, ⟨rfl, trivial⟩⟩
  ·conv => whnf
   refine ⟨(c, i + 1, b + 1, w), hI.pass hl0 hlt hk, by show c.length - (i + 1) < c.length - i; omega, ⟨rfl, rfl, rfl, hb1, rfl, rfl, ?_, trivial⟩, ⟨rfl, trivial⟩⟩
   show AV.d (.int .i64 (IntKind.i64.wrap ((i : Int) + 1))) = i64 ((i + 1 : Nat) : Int)
   rw [wrap_id (by omega) (by omega)]; rfl
 ·have hlt : ¬ i < c.length := by simpa using h
  have hE := hI.end_ hlt
  conv => whnf
  refine kbi (fun h => ?_) (fun h => ?_)
  ·have hl2 : 1 < l := by have := of_decide_eq_true h; omega
   obtain ⟨hP2, hmu⟩ := hP.half hl2 hE
   conv => whnf
   refine ⟨by omega, ?_⟩
   conv => whnf
   refine ⟨(c, l / 2, b), hP2, hmu, ⟨rfl, rfl, rfl, rfl, ?_, trivial⟩, ⟨rfl, trivial⟩⟩
   show AV.d (.int .i64 (IntKind.i64.wrap (Int.tdiv (l : Int) 2))) = i64 ((l / 2 : Nat) : Int)
   rw [Int.tdiv_eq_ediv_of_nonneg (by omega), wrap_id (by omega) (by omega)]; rfl
  ·have hl2 : ¬ 1 < l := fun e => h (decide_eq_true (by show (l : Int) > 1; omega))
   cases w with
   |true =>
    obtain ⟨hP2, hmu⟩ := hP.again hl2 hE
    conv => whnf
    refine ⟨(c, l, b), hP2, hmu, ⟨rfl, rfl, rfl, rfl, rfl, trivial⟩, ⟨rfl, trivial⟩⟩
   |false =>
    have hF := hP.end_ hl2 hE
    subst hF
    conv => whnf
    refine ⟨_, l1Own_ok c (by omega), ?_⟩
    rintro r rfl
    refine .inl ?_
    conv => whnf
    try rfl
theorem shrinkI_ok (p : ProgL) (hp : p.wf) (hg : p.goodS) (hv : p.flt) (picks : List Int) (sign : List UInt8) (h6 : Picks6 picks) : CallsTo EE 63 [agg (encProg p), sl (picks.map encInt), sv sign] (· = .ownF 1 [.uq 3 1 ((shrinkL p picks sign).1.map encInt), i64 (shrinkL p picks sign).2]) := by
 have h60 := h6.1
 have hP0 := ShrP.init p sign h6
 generalize shrinkL p picks sign = F at hP0 ⊢
 refine callsTo_of_AW (fn := Tryz.f63) Tryz.func63 rfl (by kernel_rfl) rfl ?_
 conv => whnf
 refine ⟨_, Clone_ok picks (by omega), ?_⟩
 rintro r rfl
 refine .inr ⟨_, rfl, ?_⟩
 conv => whnf
 refine ⟨by omega, ?_⟩
 conv => whnf
 have hq : IntKind.i64.wrap (Int.tdiv ((picks.map encInt).length : Int) 2) = ((picks.length / 2 : Nat) : Int) := by
  rw [List.length_map, Int.tdiv_eq_ediv_of_nonneg (by omega), wrap_id (by omega) (by omega)]; omega
 have hm : (if (1 : Int) > IntKind.i64.wrap (Int.tdiv ((picks.map encInt).length : Int) 2) then (1 : Int) else IntKind.i64.wrap (Int.tdiv ((picks.map encInt).length : Int) 2)) = ((max 1 (picks.length / 2) : Nat) : Int) := by
  rw [hq]
  split <;> omega
 refine aloopF (fun x : List Int × Nat × Nat => [(1, sl (picks.map encInt)), (2, sv sign), (3, .ptr (.n 3) 0), (8, i64 (x.2.2 : Int)), (9, .ref (.n 15) 0 x.1.length), (10, i64 (x.2.1 : Int))]) (fun x => [(.n 3, .vs 31 ((encProg p).map .d)), (.n 15, .ds 3 1 (x.1.map encInt))]) (fun x => []) (fun x => x.2.1 + x.1.length)
  (fun x => ShrP p sign F x.2.1 x.1 x.2.2 ∧ (picks = [] → x.1 = [] ∧ x.2.1 = 1)) (picks, max 1 (picks.length / 2), 0) Weak.refl ⟨rfl, rfl, rfl, rfl, ?_, ?_, trivial⟩ ⟨rfl, rfl, trivial⟩ trivial ⟨hP0, fun e => ⟨e, by rw [e]; rfl⟩⟩ ?_
 ·show AV.ref (.n 15) 0 (picks.map encInt).length = .ref (.n 15) 0 picks.length
  rw [List.length_map]
 ·exact congrArg i64 hm
 rintro ⟨xs, l, a⟩ τ H ⟨hP, hnil⟩
 have hP : ShrP p sign F l xs a := hP
 have hnil : picks = [] → xs = [] ∧ l = 1 := hnil
 have hxl := hP.len
 have hl0 := hP.l0
 have hl1 := hP.l1
 have hB := hP.asked
 conv => whnf
 refine kbi (fun h => ?_) (fun h => ?_)
 ·have hne : picks ≠ [] := by intro e; rw [e] at h; simp at h
  conv => whnf
  refine aloopF (fun x : List Int × Nat × Nat × Bool => [(1, sl (picks.map encInt)), (2, sv sign), (3, .ptr (.n 3) 0), (8, i64 (x.2.2.1 : Int)), (9, .ref (.n 15) 0 x.1.length), (10, i64 (l : Int)), (11, bv x.2.2.2), (12, i64 (x.2.1 : Int))]) (fun x => [(.n 3, .vs 31 ((encProg p).map .d)), (.n 15, .ds 3 1 (x.1.map encInt))]) (fun x => []) (fun x => x.1.length - x.2.1)
   (fun x => InnP p sign l xs a x.1 x.2.1 x.2.2.1 x.2.2.2) (xs, 0, a, false) Weak.refl ⟨rfl, rfl, rfl, rfl, rfl, rfl, rfl, rfl, trivial⟩ ⟨rfl, rfl, trivial⟩ trivial ⟨rfl, Nat.le_refl _, Nat.zero_le _, hP.nn, by show a + (xs.length - 0) ≤ _; omega⟩ ?_
  rintro ⟨c, i, b, w⟩ τ H hI
  have hI : InnP p sign l xs a c i b w := hI
  have hcl := hI.len
  have hA := hI.asked
  conv => whnf
  refine kbi (fun h => ?_) (fun h => ?_)
  ·have hlt : i < c.length := by simpa using h
   have hwi : IntKind.i64.wrap ((i : Int) + (l : Int)) = ((i + l : Nat) : Int) := by rw [wrap_id (by omega) (by omega)]; rfl
   have hmi : (if ((c.length : Nat) : Int) < IntKind.i64.wrap ((i : Int) + (l : Int)) then ((c.length : Nat) : Int) else IntKind.i64.wrap ((i : Int) + (l : Int))) = ((min c.length (i + l) : Nat) : Int) := by
    rw [hwi]
    split <;> omega
   have hb1 : AV.d (.int .i64 (IntKind.i64.wrap ((b : Int) + 1))) = i64 ((b + 1 : Nat) : Int) := by rw [wrap_id (by omega) (by omega)]; rfl
   have hdr := dropI_ok c i (min c.length (i + l)) (by omega) (by intro e; rw [e] at hlt; simp at hlt) (by omega) (by omega)
   rw [← hmi, show sl (c.map encInt) = sl (((c.map encInt).drop 0).take c.length) by rw [List.drop_zero, List.take_of_length_le (by simp)]] at hdr
   have hst := still_ok p hp hg hv (dropL c i (min c.length (i + l))) sign (drop_in hI.nn) (Nat.le_trans (drop_le (by omega)) (by omega))
   have hT := fun hk => hI.take hl0 hlt hk
   have hN := fun hk => hI.pass hl0 hlt hk
   generalize dropL c i (min c.length (i + l)) = dr at hdr hst hT hN
   rw [show sl (dr.map encInt) = sl (((dr.map encInt).drop 0).take (dr.map encInt).length) by rw [List.drop_zero, List.take_length]] at hst
   conv => whnf
   refine .inl ⟨_, hdr, ?_⟩
   rintro r rfl
   refine ⟨fun y hy => ?_, .inr ⟨_, rfl, ?_⟩⟩
   ·obtain ⟨z, _, rfl⟩ := List.mem_map.1 hy; rfl
   conv => whnf
   refine .inl (fcase hst (fun hk => ?_) (fun hk => ?_))
   ·obtain ⟨hI2, hsh⟩ := hT hk
    conv => whnf
    refine ⟨(dr, i, b + 1, true), _, weak_sw 35 15, hI2, by show dr.length - i < c.length - i; have := hI2.il; omega, ⟨rfl, rfl, rfl, hb1, ?_, rfl, rfl, rfl, trivial⟩, ⟨rfl, rfl, trivial⟩, trivial⟩
    show AV.ref (.n 15) 0 (dr.map encInt).length = _
    rw [List.length_map]
   ·conv => whnf
    refine ⟨(c, i + 1, b + 1, w), _, Weak.refl, hN hk, by show c.length - (i + 1) < c.length - i; omega, ⟨rfl, rfl, rfl, hb1, rfl, rfl, rfl, ?_, trivial⟩, ⟨rfl, rfl, trivial⟩, trivial⟩
    show AV.d (.int .i64 (IntKind.i64.wrap ((i : Int) + 1))) = i64 ((i + 1 : Nat) : Int)
    rw [wrap_id (by omega) (by omega)]; rfl
  ·have hlt : ¬ i < c.length := by simpa using h
   have hE := hI.end_ hlt
   conv => whnf
   refine kbi (fun h => ?_) (fun h => ?_)
   ·have hl2 : 1 < l := by have := of_decide_eq_true h; omega
    obtain ⟨hP2, hmu⟩ := hP.half hl2 hE
    conv => whnf
    refine ⟨by omega, ?_⟩
    conv => whnf
    refine ⟨(c, l / 2, b), _, Weak.refl, ⟨hP2, fun e => absurd e hne⟩, hmu, ⟨rfl, rfl, rfl, rfl, rfl, ?_, trivial⟩, ⟨rfl, rfl, trivial⟩, trivial⟩
    show AV.d (.int .i64 (IntKind.i64.wrap (Int.tdiv (l : Int) 2))) = i64 ((l / 2 : Nat) : Int)
    rw [Int.tdiv_eq_ediv_of_nonneg (by omega), wrap_id (by omega) (by omega)]; rfl
   ·have hl2 : ¬ 1 < l := fun e => h (decide_eq_true (by show (l : Int) > 1; omega))
    cases w with
    |true =>
     obtain ⟨hP2, hmu⟩ := hP.again hl2 hE
     conv => whnf
     refine ⟨(c, l, b), _, Weak.refl, ⟨hP2, fun e => absurd e hne⟩, hmu, ⟨rfl, rfl, rfl, rfl, rfl, rfl, trivial⟩, ⟨rfl, rfl, trivial⟩, trivial⟩
    |false =>
     have hF := hP.end_ hl2 hE
     subst hF
     conv => whnf
     refine .inr ⟨1, [.uq 3 1 (c.map encInt), i64 (b : Int)], _, [.ref (.n 900) 0 c.length, i64 (b : Int)], weak_sw 15 900, rfl, by simp, ?_, ?_, own_at ⟨rfl, trivial, trivial⟩, rfl⟩
     ·show AV.tup [.ref (.n 900) 0 (c.map encInt).length, i64 (b : Int)] = _
      rw [List.length_map]
     ·intro v hv
      simp only [List.mem_cons, List.not_mem_nil, or_false] at hv
      rcases hv with rfl | rfl <;> trivial
 ·have h0 : picks = [] := by simpa using h
  obtain ⟨rfl, rfl⟩ := hnil h0
  have hF := hP.end_ (by omega) (inn_end (by simp))
  subst hF
  conv => whnf
  refine .inr ⟨1, [.uq 3 1 [], i64 (a : Int)], _, [.ref (.n 900) 0 0, i64 (a : Int)], weak_sw 15 900, rfl, by simp, rfl, ?_, own_at ⟨rfl, trivial, trivial⟩, rfl⟩
  intro v hv
  simp only [List.mem_cons, List.not_mem_nil, or_false] at hv
  rcases hv with rfl | rfl <;> trivial
open Classical in
/-- what comes of ShrinkPicks -/
noncomputable def shrinkR (p : ProgL) (picks : List Int) (sign : List UInt8) : List Int × Nat := if OkS p picks sign then shrinkL p picks sign else ([], 0)
theorem ShrinkS_ok (p : ProgL) (hp : p.wf) (hs : p.rs.length ≤ 1048576 ∧ ∀ x ∈ p.rs, x.length ≤ 1048576) (hv : p.flt) (picks : List Int) (sign : List UInt8) (hl : picks.length ≤ 1048576) :
  CallsTo EE 27 [agg (encProg p), sl (picks.map encInt), sv sign] (· = .tup [sl ((shrinkR p picks sign).1.map encInt), i64 (shrinkR p picks sign).2, bp (OkS p picks sign)]) := by
 have cS := StillSoS_ok p hp hs hv picks sign hl
 by_cases hA : OkS p picks sign
 ·unfold shrinkR
  rw [if_pos hA]
  refine callsTo_of_AW (fn := Tryz.f27) Tryz.func27 rfl (by kernel_rfl) rfl ?_
  conv => whnf
  refine ⟨_, cS, ?_⟩
  rintro r rfl
  conv => whnf
  have hA2 : (p.goodS ∧ Picks6 picks) ∧ Still p picks sign := hA
  simp only [bp, pb_t hA, pb_t hA2, pb_t hA.1]
  conv => whnf
  refine ⟨_, l12Shrink_ok p hp hA.1.1 hv picks sign hA.1.2, ?_⟩
  rintro r rfl
  conv => whnf
  try rfl
 ·have hA2 : ¬ ((p.goodS ∧ Picks6 picks) ∧ Still p picks sign) := hA
  unfold shrinkR
  rw [if_neg hA]
  simp only [bp, pb_f hA]
  refine callsTo_of_AW (fn := Tryz.f27) Tryz.func27 rfl (by kernel_rfl) rfl ?_
  conv => whnf
  refine ⟨_, cS, ?_⟩
  rintro r rfl
  conv => whnf
  simp only [bp, pb_f hA2]
  conv => whnf
  refine .inl ?_
  conv => whnf
  try rfl
theorem ShrinkI_ok (p : ProgL) (hp : p.wf) (hs : p.rs.length ≤ 1048576 ∧ ∀ x ∈ p.rs, x.length ≤ 1048576) (hv : p.flt) (picks : List Int) (sign : List UInt8) (hl : picks.length ≤ 1048576) :
  CallsTo EE 28 [agg (encProg p), sl (picks.map encInt), sv sign] (· = .ownF 1 [.uq 3 1 ((shrinkR p picks sign).1.map encInt), i64 (shrinkR p picks sign).2, bp (OkS p picks sign)]) := by
 have cS := StillSoI_ok p hp hs hv picks sign hl
 refine callsTo_of_AW (fn := Tryz.f28) Tryz.func28 rfl (by kernel_rfl) rfl ?_
 conv => whnf
 refine ⟨_, cS, ?_⟩
 rintro r rfl
 conv => whnf
 by_cases hA : OkS p picks sign
 rotate_left
 ·have hA2 : ¬ ((p.goodS ∧ Picks6 picks) ∧ Still p picks sign) := hA
  unfold shrinkR
  rw [if_neg hA]
  simp only [bp, pb_f hA, pb_f hA2]
  conv => whnf
  refine .inr ⟨1, [.uq 3 1 [], i64 0, bv false], _, [.ref (.n 900) 0 0, i64 0, bv false], weak_nil 6 (.n 900) 3 1 rfl, rfl, by simp, rfl, ?_, own_at ⟨rfl, trivial, trivial, trivial⟩, rfl⟩
  intro v hv
  simp only [List.mem_cons, List.not_mem_nil, or_false] at hv
  rcases hv with rfl | rfl | rfl <;> trivial
 unfold shrinkR
 rw [if_pos hA]
 have hA2 : (p.goodS ∧ Picks6 picks) ∧ Still p picks sign := hA
 simp only [bp, pb_t hA, pb_t hA2, pb_t hA.1]
 conv => whnf
 refine ⟨_, shrinkI_ok p hp hA.1.1 hv picks sign hA.1.2, ?_⟩
 rintro r rfl
 generalize shrinkL p picks sign = F
 conv => whnf
 refine .inr ⟨1, [.uq 3 1 (F.1.map encInt), i64 (F.2 : Int), bv true], _, [.ref (.n 900) 0 (F.1.map encInt).length, i64 (F.2 : Int), bv true], Weak.refl, rfl, by simp, rfl, ?_, own_at ⟨rfl, trivial, trivial, trivial⟩, rfl⟩
 intro v hv
 simp only [List.mem_cons, List.not_mem_nil, or_false] at hv
 rcases hv with rfl | rfl | rfl <;> trivial
theorem shr_len {ok : List Int → Prop} : ∀ (n l : Nat) (xs : List Int) (a : Nat), l + xs.length ≤ n → (shr ok l xs a).1.length ≤ xs.length
 | 0, l, xs, a, h => by
  rw [shr_end (by omega) (show inn ok l xs 0 a false = (xs, a, false) by rw [inn, dif_neg (by omega)]) rfl]
  exact Nat.le_refl _
 |n + 1, l, xs, a, h => by
  have hf := inn_facts (ok := ok) (l := l) _ xs 0 a false (Nat.le_refl _)
  rcases hr : inn ok l xs 0 a false with ⟨c, b, w⟩
  rw [hr] at hf
  have h1 : c.length ≤ xs.length := hf.1
  by_cases hl : 1 < l
  ·rw [shr_half hl hr]
   exact Nat.le_trans (shr_len n (l / 2) c b (by omega)) h1
  ·cases w with
   |true =>
    have h3 : c.length < xs.length := (hf.2.2.1 rfl).resolve_left (by simp)
    rw [shr_again hl hr rfl]
    exact Nat.le_trans (shr_len n l c b (by omega)) h1
   |false =>
    rw [shr_end hl hr rfl]; exact h1
theorem shrinkR_len (p : ProgL) (picks : List Int) (sign : List UInt8) (h : picks.length ≤ 1048576) : (shrinkR p picks sign).1.length ≤ 1048576 := by
 unfold shrinkR
 split
 ·exact Nat.le_trans (shr_len _ _ _ _ (Nat.le_refl _)) h
 ·simp
end Ai
end
section
set_option maxRecDepth 100000
namespace Ai
open Go Go.Proofs Cyc
def lsL (picks : List Int) (sign : List UInt8) (w : List Int) (n : Nat) (b : AV) : List (Nat × AV) := [(1, sl (picks.map encInt)), (2, sv sign), (3, .ptr (.n 3) 0), (8, sl (w.map encInt)), (9, i64 (n : Int)), (10, b), (11, .ptr (.n 11) 0), (12, .ref (.n 46) 0 picks.length)]
def lsO (p : ProgL) (picks : List Int) : List (Key × Ob) := [(.n 3, .vs 24 ((encProg p).map .d)), (.n 11, .vs 31 [i64 p.cells, i64 p.locks, i64 p.conds, .dref (.n 903) p.rs.length]), (.n 46, .ds 3 1 (picks.map encInt)), (.n 903, .rs 104 1 (rowsM (opSubs p) 0))]
def lsL2 (picks : List Int) (sign : List UInt8) (w : List Int) (n : Nat) (b : AV) : List (Nat × AV) := lsL picks sign w n b ++ [(13, .ref (.n 900) 0 w.length), (14, i64 (n : Int)), (15, b)]
def lsO2 (p : ProgL) (picks w : List Int) : List (Key × Ob) := lsO p picks ++ [(.n 900, .ds 3 1 (w.map encInt))]
def lsL3 (picks : List Int) (sign : List UInt8) (w : List Int) (n : Nat) (b : AV) (k : Int) : List (Nat × AV) := [(1, sl (picks.map encInt)), (2, sv sign), (3, .ptr (.n 3) 0), (8, sl (w.map encInt)), (9, i64 (n : Int)), (10, b), (13, .ref (.n 43) 0 w.length), (14, i64 (n : Int)), (15, b), (16, i64 k)]
def lsL4 (picks : List Int) (sign : List UInt8) (w : List Int) (n : Nat) (b : AV) : List (Nat × AV) := [(1, sl (picks.map encInt)), (2, sv sign), (3, .ptr (.n 3) 0), (8, sl (w.map encInt)), (9, i64 (n : Int)), (10, b), (13, .ref (.n 43) 0 w.length), (17, i64 (1 + (w.length : Int)))]
theorem lawShrink (p : ProgL) (hp : p.wf) (hv : p.flt) (picks : List Int) (sign : List UInt8) (hl : picks.length ≤ 9223372036854775807) (hsl : sign.length ≤ 9223372036854775807) : CallsTo EE 7 [agg (encProg p), sl (picks.map encInt), sv sign] (· = bv true) := by
 refine callsTo_of_AW (fn := Tryz.f7) Tryz.func7 rfl (by kernel_rfl) rfl ?_
 refine AW_cut 9 (fun S => Sml p picks ∧ At (lsL picks sign (shrinkR p picks sign).1 (shrinkR p picks sign).2 (bp (OkS p picks sign))) (lsO p picks) (lwF p) S) (fun K hK => ?_) (fun S hS => ?_)
 ·conv => whnf
  refine kbi (fun _ => ?_) (fun h1 => ?_)
  ·conv => whnf
   try rfl
  have h1 : picks.length ≤ 1048576 := by simp at h1; omega
  conv => whnf
  refine kbi (fun _ => ?_) (fun h2 => ?_)
  ·conv => whnf
   try rfl
  conv => whnf
  refine ⟨_, szProg_ok p 1048576 (by omega) (by omega) hp, ?_⟩
  rintro r ⟨n, rfl, hn1, hn2, hn3⟩
  conv => whnf
  refine kbi (fun _ => ?_) (fun h => ?_)
  ·conv => whnf
   try rfl
  have hsz : p.size ≤ 1048576 := by
   have := hn3 (by simp at h; omega)
   simp at h
   omega
  have hs := size_le List.length p.rs 1048576 hsz
  have cS := ShrinkS_ok p hp hs hv picks sign h1
  conv => whnf
  refine ⟨_, toProg_ok p hs, ?_⟩
  rintro r rfl
  conv => whnf
  refine ⟨_, toIntS_ok picks h1, ?_⟩
  rintro r rfl
  refine .inl ?_
  conv => whnf
  refine ⟨_, cS, ?_⟩
  rintro r rfl
  conv => whnf
  refine ⟨_, toProg_own p hs, ?_⟩
  rintro r rfl
  conv => whnf
  refine ⟨_, toIntS_ok picks h1, ?_⟩
  rintro r rfl
  refine .inr ⟨_, rfl, ?_⟩
  conv => whnf
  refine hK _ ⟨⟨h1, hs, hsz⟩, ⟨rfl, rfl, rfl, rfl, rfl, rfl, rfl, ?_, trivial⟩, ⟨rfl, ?_, rfl, ?_, trivial⟩, ⟨fun j => ?_, trivial⟩⟩
  ·show AV.ref (.n 46) 0 (picks.map encInt).length = _
   rw [List.length_map]
  ·show some (Ob.vs 31 [i64 p.cells, i64 p.locks, i64 p.conds, .dref (.n 903) (p.rs.map fun _ => [D.nil]).length]) = _
   rw [List.length_map]
  ·show some (Ob.rs 104 1 (((ownRows 903 0 (p.rs.map fun _ => [.nil]) (opSubs p)).map (scrPL (isK (.n 11)))).map (scrPL (isK (.n 46))))) = _
   rw [ownRows_M, rowsM0_scr _ (fun j => rfl), rowsM0_scr _ (fun j => rfl)]
  ·show Option.map _ (Option.map _ (match ownH (ownPg p) (.s 903 j) with | some ob => some ob | none => _)) = _
   rw [ownPg_fam]
   cases hq : famM (opSubs p) 0 j with
   |none => rfl
   |some ob =>
    show Option.map _ (Option.map _ (some ob)) = some ob
    rw [← hq, famM_scr, famM_scr]
 obtain ⟨⟨h1, hs, hsz⟩, hat⟩ := hS
 have cI := ShrinkI_ok p hp hs hv picks sign h1
 simp only [bp] at cI hat
 generalize pb (OkS p picks sign) = b at cI hat
 have hR := shrinkR_len p picks sign h1
 generalize (shrinkR p picks sign).1 = R at cI hR hat
 generalize (shrinkR p picks sign).2 = N at cI hat
 refine AW_cut 4 (At (lsL2 picks sign R N (bv b)) (lsO2 p picks R) (lwF p)) (fun K hK => ?_) (fun S2 hS2 => ?_)
 rotate_left 1
 ·clear hat
  have hsl : (opSubs p).length = p.rs.length := by simp [opSubs]
  have ht := tot_size hsz
  refine AW_cut 3 (fun S => ∃ k : Int, 0 ≤ k ∧ At (lsL3 picks sign R N (bv b) k) (lwO3 p R) [] S) (fun K hK => ?_) (fun S3 hS3 => ?_)
  ·obtain ⟨τ, H, rfl⟩ := hS2.form
   clear hS2
   conv => whnf
   refine .inr (.inl ⟨999, 0, lendP, (fun r H1 => r = i64 (1 + 4 * tot (opSubs p) (opSubs p).length) ∧ ∀ κ, H1 κ = none), ?_, rfl, ?_⟩)
   ·refine io_congr (markProg_ok p.cells p.locks p.conds (opSubs p) 1 (by omega) (ops4 p) ht (by omega) (by omega) _ ?_ fun j => ?_) ?_
    ·show some (Ob.rs 104 1 (((rowsM (opSubs p) 0).map (renL (swp (.n 999) (.l 0)))).map (scrPL (fun o => !lendP o)))) = _
     rw [rowsM0_ren _ (fun j => rfl), rowsM0_scr _ (fun j => rfl)]
    ·show Option.map _ (Option.map _ (famM (opSubs p) 0 j)) = _
     rw [famM_ren, famM_scr]
    ·rw [hsl]; rfl
   rintro r H1 ⟨rfl, q⟩
   refine ⟨fun κ _ => q κ, fun n hn => (by cases hn), ?_⟩
   generalize tot (opSubs p) (opSubs p).length = T at ht ⊢
   conv => whnf
   refine .inr (.inr (.inr (.inl ⟨_, 23, [], (weak_sw 46 77).trans (weak_sw 900 43), rfl, 999, 0, isK (.n 77), _, io_congr (markIntS_ok (.n 77) (.inl rfl) picks (1 + 4 * (T : Int)) h1 (by omega) (by omega) _ rfl) rfl, rfl, ?_⟩)))
   rintro r H1 ⟨rfl, _, q2⟩
   refine ⟨q2, fun n hn => (by cases hn), ?_⟩
   conv => whnf
   refine hK _ ⟨(1 + 4 * (T : Int)) + picks.length, by omega, ⟨rfl, rfl, rfl, rfl, rfl, rfl, rfl, rfl, rfl, rfl, trivial⟩, ⟨rfl, rfl, trivial⟩, trivial⟩
  ·obtain ⟨k, hk, hS3⟩ := hS3
   refine AW_cut 3 (At (lsL4 picks sign R N (bv b)) (lwO4 p R) []) (fun K hK => ?_) (fun S4 hS4 => ?_)
   ·obtain ⟨τ, H, rfl⟩ := hS3.form
    clear hS3
    have heq : CallsTo EE 17 [sl (((R.map encInt).drop 0).take R.length), sl (R.map encInt)] (· = bv true) := by
     rw [List.drop_zero, List.take_of_length_le (by simp)]
     exact eqIntS_ok R hR
    conv => whnf
    refine kbi (fun h => absurd h (by simp; omega)) (fun _ => ?_)
    conv => whnf
    refine .inl ⟨_, heq, ?_⟩
    rintro r rfl
    refine ⟨rfl, ?_⟩
    conv => whnf
    refine kbi (fun h => absurd h (by simp)) (fun _ => ?_)
    conv => whnf
    refine kbi (fun h => absurd h (by simp)) (fun _ => ?_)
    conv => whnf
    refine .inr (.inl ⟨43, 77, isK (.l 77), _, io_congr (markIntS_ok (.l 77) (.inr rfl) R 1 hR (by omega) (by omega) _ rfl) rfl, rfl, ?_⟩)
    rintro r H1 ⟨rfl, e1, q2⟩
    refine ⟨q2, fun n hn => ⟨.ds 3 1 (R.map encInt), ?_, (marks 1 R.length).map encInt, ?_, by simp [marks_len]⟩, ?_⟩
    ·have : n = 77 := Nat.eq_of_beq_eq_true hn
     subst this; rfl
    ·have : n = 77 := Nat.eq_of_beq_eq_true hn
     subst this; exact e1
    conv => whnf
    refine hK _ ⟨⟨rfl, rfl, rfl, rfl, rfl, rfl, rfl, rfl, trivial⟩, ⟨rfl, ?_, trivial⟩, trivial⟩
    show Option.map _ (H1 (.l 77)) = _
    rw [e1]; rfl
   ·clear hS3
    obtain ⟨τ, H, rfl⟩ := hS4.form
    clear hS4
    have hh : CallsTo EE 24 [sl ((((marks 1 R.length).map encInt).drop 0).take R.length), i64 1] (· = i64 (1 + (R.length : Int))) := by
     rw [List.drop_zero, List.take_of_length_le (by simp [marks_len])]
     exact heldIntS_ok 1 R.length hR (by omega) (by omega)
    conv => whnf
    refine .inl ⟨_, hh, ?_⟩
    rintro r rfl
    refine ⟨rfl, ?_⟩
    conv => whnf
    refine kbi (fun h => absurd h (by simp; omega)) (fun _ => ?_)
    conv => whnf
    refine kbi (fun h => absurd h (by simp)) (fun _ => ?_)
    conv => whnf
    refine ⟨_, toProg_ok p hs, ?_⟩
    rintro r rfl
    conv => whnf
    refine ⟨_, toIntS_ok picks h1, ?_⟩
    rintro r rfl
    refine .inl ?_
    conv => whnf
    refine ⟨_, cI, ?_⟩
    rintro r rfl
    have heq : CallsTo EE 17 [sl (((R.map encInt).drop 0).take (R.map encInt).length), sl (R.map encInt)] (· = bv true) := by
     rw [List.drop_zero, List.take_length]
     exact eqIntS_ok R hR
    conv => whnf
    refine .inl ⟨_, heq, ?_⟩
    rintro r rfl
    refine ⟨rfl, ?_⟩
    conv => whnf
    refine kbi (fun h => absurd h (by simp)) (fun _ => ?_)
    conv => whnf
    refine kbi (fun h => absurd h (by simp)) (fun _ => ?_)
    conv => whnf
    refine .inl ⟨_, hh, ?_⟩
    rintro r rfl
    refine ⟨rfl, ?_⟩
    conv => whnf
    refine kbi (fun h => absurd h (by simp; omega)) (fun _ => ?_)
    conv => whnf
    refine kbi (fun h => absurd h (by simp)) (fun _ => ?_)
    conv => whnf
    try rfl
 obtain ⟨τ, H, rfl⟩ := hat.form
 clear hat
 conv => whnf
 refine .inl ⟨[agg (encProg p), sl (picks.map encInt), sv sign], [], _, ⟨_, _, rfl, ⟨_, rfl, fz_own rfl (fun j => rfl) rfl⟩, _, _, rfl, ?_, _, _, rfl, rfl, rfl⟩, rfl, cI, ?_⟩
 ·show some (AV.d (.sl (((picks.map encInt).drop 0).take picks.length))) = some (sl (picks.map encInt))
  rw [List.drop_zero, List.take_of_length_le (by simp)]
 rintro r rfl
 refine ⟨fun c hc => ?_, ?_⟩
 ·simp only [List.mem_cons, List.not_mem_nil, or_false] at hc
  rcases hc with rfl | rfl | rfl
  ·intro c hc
   obtain ⟨y, _, rfl⟩ := List.mem_map.1 hc; rfl
  ·rfl
  ·rfl
 have heq : CallsTo EE 17 [sl (((R.map encInt).drop 0).take (R.map encInt).length), sl (R.map encInt)] (· = bv true) := by
  rw [List.drop_zero, List.take_length]
  exact eqIntS_ok R hR
 conv => whnf
 refine .inl ⟨_, heq, ?_⟩
 rintro r rfl
 refine ⟨rfl, ?_⟩
 conv => whnf
 refine kbi (fun h => absurd h (by simp)) (fun _ => ?_)
 conv => whnf
 refine kbi (fun h => absurd h (by simp)) (fun _ => ?_)
 conv => whnf
 refine ⟨by kernel_rfl, ?_⟩
 conv => whnf
 refine ⟨_, toProg_ok p hs, ?_⟩
 conv => whnf
 refine ⟨[agg (encProg p), agg (encProg p)], [], bv true, ⟨_, _, rfl, ⟨_, rfl, fz_own ?_ (fun j => ?_) rfl⟩, _, _, rfl, fz_prog p, rfl⟩, rfl, eqProg_ok p hs, rfl, ?_⟩
 ·show some (Ob.rs 104 1 ((rowsM (opSubs p) 0).map (scrPL _))) = _
  rw [rowsM0_scr _ fun j => rfl]
 ·show Option.map _ (famM (opSubs p) 0 j) = _
  exact famM_scr _ _ _ _
 conv => whnf
 refine ⟨_, toIntS_ok picks h1, ?_⟩
 rintro r rfl
 refine .inl ?_
 conv => whnf
 have heq2 : CallsTo EE 17 [sl (((picks.map encInt).drop 0).take picks.length), sl (picks.map encInt)] (· = bv true) := by
  rw [List.drop_zero, List.take_of_length_le (by simp)]
  exact eqIntS_ok picks h1
 refine .inl ⟨_, heq2, ?_⟩
 rintro r rfl
 refine ⟨rfl, ?_⟩
 conv => whnf
 refine hK _ ⟨⟨rfl, rfl, rfl, rfl, rfl, rfl, rfl, rfl, ?_, rfl, rfl, trivial⟩, ⟨rfl, rfl, rfl, ?_, rfl, trivial⟩, ⟨fun j => ?_, trivial⟩⟩
 ·show AV.ref (.n 900) 0 (R.map encInt).length = _
  rw [List.length_map]
 ·show some (Ob.rs 104 1 ((rowsM (opSubs p) 0).map (scrPL _))) = _
  rw [rowsM0_scr _ fun j => rfl]
 ·show Option.map _ (famM (opSubs p) 0 j) = _
  exact famM_scr _ _ _ _
end Ai
end
