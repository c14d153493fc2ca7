import Derived.Test.YtjkogkjhhjioeaaGreatDoorZE
import Derived.Shelf.Strings.IndexAnyAll
import Derived.Shelf.Small.Utf8
import Derived.Laws.RangeAny
import Derived.Ground.NamesProg
import Derived.Test.YtjkogkjhhjioeaaGreatDoorProg
import Derived.Lib.OthersKept
set_option maxHeartbeats 8000000
set_option linter.unusedVariables false
set_option linter.unusedSimpArgs false
section
set_option maxRecDepth 100000
namespace Ai
open Go Go.Proofs Cyc
def GTh (p : ProgL) (t : Th) : Prop := ((t.st = 1 ∨ t.st = 2) ∧ t.cond = -1 ∧ t.lock = -1) ∨ ((t.st = 3 ∨ t.st = 4) ∧ 0 ≤ t.cond ∧ t.cond < p.conds ∧ 0 ≤ t.lock ∧ t.lock < p.locks)
structure GInv (p : ProgL) (s : StL) : Prop where
 ths : ∀ t ∈ s.ths, GTh p t
 ne : 1 ≤ s.ths.length
 fault : InR s.fault 0 4
theorem ginv_put {p : ProgL} {s : StL} {k : Nat} {t : Th} (h : GInv p s) (ht : GTh p t) : GInv p (s.put k t) := by
 refine ⟨fun u hu => ?_, by simpa [StL.put] using h.ne, h.fault⟩
 rcases List.mem_or_eq_of_mem_set hu with e | e
 ·exact h.ths u e
 ·subst e; exact ht
theorem fault_in (s : StL) (k : Nat) (o : OpL) : InR (faultOf s k o) 0 4 := by
 unfold faultOf InR
 simp only
 split
 ·omega
 split
 ·omega
 split
 ·omega
 split <;> omega
theorem ginv_do {p : ProgL} (hg : p.goodS) {s : StL} (hi : SInv p s) {k : Nat} (h : k < s.ths.length) {o : OpL} (hn : nextOp p s.ths[k] = some o) (e : Ev) (hG : GInv p s) (h1 : s.ths[k].st = 1) : GInv p (doL s k o e).1 := by
 have hT := hi.ths _ (List.getElem_mem h)
 have hgd : s.ths.getD k th0 = s.ths[k] := by simp [List.getD_eq_getElem?_getD, h]
 obtain ⟨⟨g1, g2⟩, hlt⟩ := row_good hg hT hn
 obtain ⟨c1, c2, c3, _⟩ := g1
 obtain ⟨a1, a2, a3, a4, a5, a6⟩ := g2
 have ht := hG.ths _ (List.getElem_mem h)
 generalize s.ths[k] = t at *
 unfold doL
 simp only [hgd]
 have hp : GTh p (popT t o) := ht
 have hpush : ∀ v, GTh p (pushT (popT t o) v) := fun v => ht
 have hpc : ∀ a, GTh p { popT t o with pc := a } := fun a => ht
 by_cases n1 : o.code = 1
 ·rw [if_pos n1]; exact ginv_put hG (hpush _)
 rw [if_neg n1]
 by_cases n2 : o.code = 2
 ·rw [if_pos n2]; exact ginv_put hG (hpush _)
 rw [if_neg n2]
 by_cases n3 : o.code = 3
 ·rw [if_pos n3]; exact ginv_put (s := { s with cells := _ }) ⟨hG.ths, hG.ne, hG.fault⟩ hp
 rw [if_neg n3]
 by_cases n10 : o.code = 10
 ·rw [if_pos n10]; exact ginv_put hG (hpc _)
 rw [if_neg n10]
 by_cases n11 : o.code = 11
 ·rw [if_pos n11]
  refine ginv_put hG ?_
  split
  ·exact hpc _
  ·exact hp
 rw [if_neg n11]
 by_cases n12 : o.code = 12
 ·rw [if_pos n12]; exact ginv_put (s := { s with owner := _ }) ⟨hG.ths, hG.ne, hG.fault⟩ hp
 rw [if_neg n12]
 by_cases n13 : o.code = 13
 ·rw [if_pos n13]; exact ginv_put (s := { s with owner := _ }) ⟨hG.ths, hG.ne, hG.fault⟩ hp
 rw [if_neg n13]
 by_cases n14 : o.code = 14
 ·rw [if_pos n14]
  refine ginv_put (s := { s with ths := _ }) ⟨fun u hu => ?_, by show 1 ≤ (s.ths ++ [newTh o.a]).length; simp, hG.fault⟩ (hpush _)
  rcases List.mem_append.1 hu with e | e
  ·exact hG.ths u e
  ·simp only [List.mem_cons, List.not_mem_nil, or_false] at e
   subst e; exact .inl ⟨.inl rfl, rfl, rfl⟩
 rw [if_neg n14]
 by_cases n15 : o.code = 15
 ·rw [if_pos n15]; exact ginv_put hG hp
 rw [if_neg n15]
 by_cases n16 : o.code = 16
 ·rw [if_pos n16]
  exact ginv_put (s := { s with owner := _ }) ⟨hG.ths, hG.ne, hG.fault⟩ (.inr ⟨.inl rfl, c2.1, (a5 n16).1, c3.1, (a5 n16).2⟩)
 rw [if_neg n16]
 by_cases n17 : o.code = 17
 ·rw [if_pos n17]
  cases hw : wakeIx s.ths o.a with
  |none => exact ginv_put hG hp
  |some j =>
   refine ginv_put (s := { s with ths := _ }) ⟨fun u hu => ?_, by simpa using hG.ne, hG.fault⟩ hp
   obtain ⟨i, hi2, rfl⟩ := List.mem_iff_getElem.1 hu
   have hil : i < s.ths.length := by simpa using hi2
   have hU := hG.ths _ (List.getElem_mem hil)
   rw [List.getElem_modify]
   split
   ·rename_i hji
    subst hji
    unfold wakeIx at hw
    rw [List.findIdx?_eq_some_iff_getElem] at hw
    obtain ⟨_, hpw, _⟩ := hw
    simp only [Bool.and_eq_true, beq_iff_eq] at hpw
    rcases hU with ⟨h9, _⟩ | ⟨_, h9⟩
    ·have := hpw.1; omega
    ·exact .inr ⟨.inr rfl, h9⟩
   ·exact hU
 rw [if_neg n17]
 exact ginv_put hG (hpush _)
theorem ginv_step {p : ProgL} (hg : p.goodS) {s : StL} (hi : SInv p s) {k : Nat} (h : k < s.ths.length) (hk : k ∈ enabledL p s) (hG : GInv p s) : GInv p (stepL p s k).1 := by
 have ht := hG.ths _ (List.getElem_mem h)
 have hgo := goes_st hk h
 have hgd : s.ths.getD k th0 = s.ths[k] := by simp [List.getD_eq_getElem?_getD, h]
 unfold stepL
 simp only [hgd]
 split
 ·exact ginv_put (s := { s with owner := _ }) ⟨hG.ths, hG.ne, hG.fault⟩ (.inl ⟨.inl rfl, rfl, rfl⟩)
 ·rename_i h4
  have h1 : s.ths[k].st = 1 := by omega
  split
  ·refine ginv_put hG (.inl ⟨.inr rfl, ?_⟩)
   rcases ht with ⟨_, h9⟩ | ⟨h9, _⟩
   ·exact h9
   ·omega
  ·rename_i o hn
   split
   ·exact ginv_do hg hi h hn _ hG h1
   ·exact ⟨hG.ths, hG.ne, fault_in s k o⟩
theorem ginv_new (p : ProgL) : GInv p (newL p) := by
 refine ⟨fun t ht => ?_, by simp [newL], by simp [newL, InR]⟩
 have : t = newTh 0 := by simpa [newL] using ht
 subst this
 exact .inl ⟨.inl rfl, rfl, rfl⟩
structure AInv (p : ProgL) (s : StL) : Prop where
 si : SInv p s
 fl : s.flt
 ow : OInv s
 gi : GInv p s
theorem en_lt {p : ProgL} {s : StL} {k : Nat} (hk : k ∈ enabledL p s) : k < s.ths.length := by have := (List.mem_filter.1 hk).1; simpa using this
theorem ainv_step {p : ProgL} (hg : p.goodS) (hv : p.flt) {s : StL} {k : Nat} (hk : k ∈ enabledL p s) (h : AInv p s) : AInv p (stepL p s k).1 :=
 ⟨inv_step hg h.si (en_lt hk), flt_step hv (en_lt hk) h.fl, oinv_step (en_lt hk) h.ow, ginv_step hg h.si (en_lt hk) hk h.gi⟩
theorem ainv_new {p : ProgL} (hg : p.goodS) : AInv p (newL p) := ⟨inv_new hg, flt_new p, oinv_new p, ginv_new p⟩
theorem do_lev (s : StL) (k : Nat) (o : OpL) (e : Ev) : s.ths.length ≤ (doL s k o e).1.ths.length ∧ (doL s k o e).2.th = e.th ∧ (doL s k o e).2.pc = e.pc := by
 have hput : ∀ (s : StL) (t : Th), (s.put k t).ths.length = s.ths.length := fun s t => by simp [StL.put]
 have hle : ∀ (s2 : StL) (t : Th), s.ths.length ≤ s2.ths.length → s.ths.length ≤ (s2.put k t).ths.length := fun s2 t h => by rw [hput]; exact h
 unfold doL
 simp only
 by_cases n1 : o.code = 1
 ·rw [if_pos n1]; exact ⟨hle _ _ (Nat.le_refl _), rfl, rfl⟩
 rw [if_neg n1]
 by_cases n2 : o.code = 2
 ·rw [if_pos n2]; exact ⟨hle _ _ (Nat.le_refl _), rfl, rfl⟩
 rw [if_neg n2]
 by_cases n3 : o.code = 3
 ·rw [if_pos n3]; exact ⟨hle _ _ (Nat.le_refl _), rfl, rfl⟩
 rw [if_neg n3]
 by_cases n10 : o.code = 10
 ·rw [if_pos n10]; exact ⟨hle _ _ (Nat.le_refl _), rfl, rfl⟩
 rw [if_neg n10]
 by_cases n11 : o.code = 11
 ·rw [if_pos n11]; exact ⟨hle _ _ (Nat.le_refl _), rfl, rfl⟩
 rw [if_neg n11]
 by_cases n12 : o.code = 12
 ·rw [if_pos n12]; exact ⟨hle _ _ (Nat.le_refl _), rfl, rfl⟩
 rw [if_neg n12]
 by_cases n13 : o.code = 13
 ·rw [if_pos n13]; exact ⟨hle _ _ (Nat.le_refl _), rfl, rfl⟩
 rw [if_neg n13]
 by_cases n14 : o.code = 14
 ·rw [if_pos n14]; exact ⟨hle _ _ (by show _ ≤ (s.ths ++ [newTh o.a]).length; simp), rfl, rfl⟩
 rw [if_neg n14]
 by_cases n15 : o.code = 15
 ·rw [if_pos n15]; exact ⟨hle _ _ (Nat.le_refl _), rfl, rfl⟩
 rw [if_neg n15]
 by_cases n16 : o.code = 16
 ·rw [if_pos n16]; exact ⟨hle _ _ (Nat.le_refl _), rfl, rfl⟩
 rw [if_neg n16]
 by_cases n17 : o.code = 17
 ·rw [if_pos n17]
  cases wakeIx s.ths o.a with
  |none => exact ⟨hle _ _ (Nat.le_refl _), rfl, rfl⟩
  |some j => exact ⟨hle _ _ (by show _ ≤ (s.ths.modify j _).length; simp), rfl, rfl⟩
 rw [if_neg n17]
 exact ⟨hle _ _ (Nat.le_refl _), rfl, rfl⟩
theorem step_len (p : ProgL) (s : StL) (k : Nat) : s.ths.length ≤ (stepL p s k).1.ths.length := by
 have hput : ∀ (s : StL) (t : Th), (s.put k t).ths.length = s.ths.length := fun s t => by simp [StL.put]
 unfold stepL
 simp only
 split
 ·rw [hput]; exact Nat.le_refl _
 ·split
  ·rw [hput]; exact Nat.le_refl _
  ·split
   ·exact (do_lev _ _ _ _).1
   ·exact Nat.le_refl _
theorem step_ev (p : ProgL) (s : StL) (k : Nat) : (stepL p s k).2.th = k ∧ (stepL p s k).2.pc = (s.ths.getD k th0).pc := by
 unfold stepL
 simp only
 split
 ·exact ⟨rfl, rfl⟩
 ·split
  ·exact ⟨rfl, rfl⟩
  ·split
   ·exact (do_lev _ _ _ _).2
   ·exact ⟨rfl, rfl⟩
structure TrOK (s : StL) (tr : List Ev) : Prop where
 ev : ∀ e ∈ tr, 0 ≤ e.th ∧ e.th < s.ths.length ∧ 0 ≤ e.pc ∧ e.pc ≤ 24
 ne : s.fault ≠ 0 → tr ≠ []
theorem tr_step {p : ProgL} (hg : p.goodS) {s : StL} {k : Nat} (hk : k ∈ enabledL p s) (h : AInv p s) {tr : List Ev} (ht : TrOK s tr) : TrOK (stepL p s k).1 (tr ++ [(stepL p s k).2]) := by
 have hl := en_lt hk
 have hgd : s.ths.getD k th0 = s.ths[k] := by simp [List.getD_eq_getElem?_getD, hl]
 have hT := h.si.ths _ (List.getElem_mem hl)
 have hr : s.ths[k].rt.toNat < p.rs.length := by have := hT.rt; omega
 have e24 : (p.rs.getD s.ths[k].rt.toNat []).length ≤ 24 := by
  rw [List.getD_eq_getElem?_getD, List.getElem?_eq_getElem hr]
  exact (hg.2 _ (List.getElem_mem hr)).2
 have h2 := step_len p s k
 refine ⟨fun e he => ?_, fun _ => by simp⟩
 rcases List.mem_append.1 he with e1 | e1
 ·have := ht.ev e e1
  omega
 ·simp only [List.mem_cons, List.not_mem_nil, or_false] at e1
  subst e1
  obtain ⟨e1, e2⟩ := step_ev p s k
  rw [e1, e2, hgd]
  have := hT.pc
  omega
structure RunT where
 c : Int
 tr : List Ev
 tk : List Int
 s : StL
noncomputable def runT (p : ProgL) (picks : List Int) (budget : Int) : Nat → StL → List Ev → List Int → RunT
 | 0, s, tr, tk => ⟨0, tr, tk, s⟩
 |n + 1, s, tr, tk =>
  if 0 < codeL p s tr.length budget then ⟨codeL p s tr.length budget, tr, tk, s⟩
  else
   let k := pickOf picks tk (enabledL p s).length
   let w := (enabledL p s).getD k.toNat 0
   runT p picks budget n (stepL p s w).1 (tr ++ [(stepL p s w).2]) (tk ++ [k])
def encRT (x : RunT) : List D := encRun x.c x.tr x.tk x.s
theorem runL_eq (p : ProgL) (picks : List Int) (budget : Int) : ∀ n s tr tk, runL p picks budget n s tr tk = encRT (runT p picks budget n s tr tk)
 | 0, s, tr, tk => rfl
 |n + 1, s, tr, tk => by
  unfold runL runT
  split
  ·rfl
  ·exact runL_eq p picks budget n _ _ _
structure REnd (p : ProgL) (budget : Int) (x : RunT) : Prop where
 inv : AInv p x.s
 tr : TrOK x.s x.tr
 code : x.c = codeL p x.s x.tr.length budget
 pos : 0 < x.c
 len : x.tr.length = x.tk.length
 le : (x.tr.length : Int) ≤ budget
 tk : ∀ i ∈ x.tk, 0 ≤ i ∧ i < 5
theorem pick_lt (p : ProgL) (s : StL) (picks tk : List Int) (hpk : ∀ i ∈ picks, 0 ≤ i) (h : 0 < (enabledL p s).length) : 0 ≤ pickOf picks tk (enabledL p s).length ∧ pickOf picks tk (enabledL p s).length < (enabledL p s).length := by
 unfold pickOf
 split
 ·rename_i h1
  have h2 : 0 ≤ picks.getD tk.length 0 := by
   rw [List.getD_eq_getElem?_getD, List.getElem?_eq_getElem h1]
   exact hpk _ (List.getElem_mem h1)
  exact ⟨Int.tmod_nonneg _ h2, Int.tmod_lt_of_pos _ (by omega)⟩
 ·omega
theorem en_ne {p : ProgL} {s : StL} {a b : Int} (h : ¬ 0 < codeL p s a b) : 0 < (enabledL p s).length ∧ a ≠ b := by
 have hen : enabledL p s ≠ [] := by
  intro he
  apply h
  unfold codeL
  by_cases hf : s.fault ≠ 0
  ·rw [if_pos hf]; decide
  ·rw [if_neg hf, if_pos he]; split <;> decide
 refine ⟨List.length_pos_iff.2 hen, fun he => h ?_⟩
 unfold codeL
 by_cases hf : s.fault ≠ 0
 ·rw [if_pos hf]; decide
 ·rw [if_neg hf, if_neg hen, if_pos he]; decide
theorem run_end {p : ProgL} (hg : p.goodS) (hv : p.flt) (picks : List Int) (budget : Int) (hpk : ∀ i ∈ picks, 0 ≤ i) : ∀ n s tr tk, AInv p s → TrOK s tr → tr.length = tk.length → (tr.length : Int) ≤ budget → budget.toNat + 1 - tr.length ≤ n → (∀ i ∈ tk, 0 ≤ i ∧ i < 5) → REnd p budget (runT p picks budget n s tr tk)
 | 0, s, tr, tk, hi, ht, hl, hb, hn, hk => by omega
 |n + 1, s, tr, tk, hi, ht, hl, hb, hn, hk => by
  unfold runT
  split
  ·rename_i h
   exact ⟨hi, ht, rfl, h, hl, hb, hk⟩
  ·rename_i h
   obtain ⟨h1, h2⟩ := en_ne h
   have h3 := pick_lt p s picks tk hpk h1
   have hkl : (pickOf picks tk (enabledL p s).length).toNat < (enabledL p s).length := by omega
   have hmem : (enabledL p s).getD (pickOf picks tk (enabledL p s).length).toNat 0 ∈ enabledL p s := by rw [List.getD_eq_getElem?_getD, List.getElem?_eq_getElem hkl]; exact List.getElem_mem hkl
   have h5 : (enabledL p s).length ≤ 5 := Nat.le_trans (enabledTo_le) hi.si.len
   refine run_end hg hv picks budget hpk n _ _ _ (ainv_step hg hv hmem hi) (tr_step hg hmem hi ht) (by simp; exact hl) (by simp; omega) (by simp; omega) fun i hx => ?_
   rcases List.mem_append.1 hx with e | e
   ·exact hk i e
   ·simp only [List.mem_cons, List.not_mem_nil, or_false] at e
    subst e
    omega
noncomputable def runOf (p : ProgL) (picks : List Int) (budget : Int) : RunT := runT p picks budget (budget.toNat + 1) (newL p) [] []
theorem runOf_end {p : ProgL} (hg : p.goodS) (hv : p.flt) (picks : List Int) (budget : Int) (hpk : ∀ i ∈ picks, 0 ≤ i) (hb : 0 ≤ budget) : REnd p budget (runOf p picks budget) :=
 run_end hg hv picks budget hpk _ _ _ _ (ainv_new hg) ⟨fun e he => (by cases he), fun h => absurd rfl h⟩ rfl hb (by simp) fun i hi => (by cases hi)
theorem l4Run_of (p : ProgL) (hp : p.wf) (hg : p.goodS) (picks : List Int) (budget : Int) (hpk : ∀ i ∈ picks, 0 ≤ i) (hl : picks.length ≤ 1048576) (hb : InR budget 0 1048576) :
  CallsTo EE 67 [agg (encProg p), sl (picks.map encInt), i64 budget] (· = agg (encRT (runOf p picks budget))) := by
 have := l4Run_good p hp hg picks budget hpk hl hb
 rwa [runL_eq] at this
theorem runPicks_of (p : ProgL) (hp : p.wf) (hg : p.goodS) (hv : p.flt) (picks : List Int) (budget : Int) (hpk : ∀ i ∈ picks, 0 ≤ i) (hl : picks.length ≤ 1048576) (hb : InR budget 0 1048576) :
  CallsTo EE 81 [agg (encProg p), sl (picks.map encInt), i64 budget] (· = agg (encRT (runOf p picks budget))) := by
 have := runPicks_good p hp hg hv picks budget hpk hl hb
 rwa [runL_eq] at this
end Ai
end
section
set_option maxRecDepth 100000
namespace Ai
open Go Go.Proofs Cyc
theorem wayS_ok {edges : List (Nat × Nat)} {to : Nat} (he : ∀ e ∈ edges, e.2 < 100) : ∀ (f i L : Nat) (ways : List (List Nat)) (seen : List Nat) (w : List Nat), (∀ w ∈ ways, w.length ≤ L ∧ ∀ x ∈ w, x < 100) → wayS edges to f i ways seen = some w → w.length ≤ L + f ∧ ∀ x ∈ w, x < 100
 | 0, _, _, _, _, _, _, h => by simp [wayS] at h
 |f + 1, i, L, ways, seen, w, hw, h => by
  unfold wayS at h
  split at h
  ·rename_i hi
   have hgw : ways.getD i [] ∈ ways := by rw [List.getD_eq_getElem?_getD, List.getElem?_eq_getElem hi]; exact List.getElem_mem hi
   split at h
   ·obtain ⟨h1, h2⟩ := wayS_ok he f (i + 1) L ways seen w hw h
    exact ⟨by omega, h2⟩
   ·rename_i e hf
    have he2 := he e (List.mem_of_find?_eq_some hf)
    split at h
    ·simp only [Option.some.injEq] at h
     subst h
     exact ⟨by have := (hw _ hgw).1; omega, (hw _ hgw).2⟩
    ·split at h
     ·obtain ⟨h1, h2⟩ := wayS_ok he f (i + 1) L ways seen w hw h
      exact ⟨by omega, h2⟩
     ·obtain ⟨h1, h2⟩ := wayS_ok he f (i + 1) (L + 1) _ _ w (fun v hv => by
       rcases List.mem_append.1 hv with e1 | e1
       ·have := hw v e1
        exact ⟨by omega, this.2⟩
       ·simp only [List.mem_cons, List.not_mem_nil, or_false] at e1
        subst e1
        refine ⟨by have := (hw _ hgw).1; rw [List.length_append]; show _ + 1 ≤ _; omega, fun x hx => ?_⟩
        rcases List.mem_append.1 hx with e2 | e2
        ·exact (hw _ hgw).2 x e2
        ·simp only [List.mem_cons, List.not_mem_nil, or_false] at e2
         subst e2; exact he2) h
      exact ⟨by omega, h2⟩
  ·simp only [Option.some.injEq] at h
   subst h
   simp
theorem cyc_ok {edges : List (Nat × Nat)} (hG : Graph edges) : (cycSOf edges).length ≤ 9 ∧ ∀ x ∈ cycSOf edges, x < 100 := by
 unfold cycSOf
 cases h : (List.range 100).findSome? (fun n => match cycS edges n with | some (x :: xs) => some (x :: xs) | _ => none) with
 |none => simp
 |some o =>
  obtain ⟨n, hn, ho⟩ := List.exists_of_findSome?_eq_some h
  have hn : n < 100 := by simpa using hn
  cases hc : cycS edges n with
  |none => rw [hc] at ho; cases ho
  |some l =>
   rw [hc] at ho
   cases l with
   |nil => cases ho
   |cons x xs =>
    simp only [Option.some.injEq] at ho
    subst ho
    exact wayS_ok (fun e he => by have := hG.small e he; omega) 8 0 1 _ _ _ (fun w hw => by
     simp only [List.mem_cons, List.not_mem_nil, or_false] at hw
     subst hw
     simpa using hn) hc
noncomputable def deadL (p : ProgL) (s : StL) : List Int := (cycSOf (edgesN p s)).map fun x => ((x : Nat) : Int)
theorem ainv_graph {p : ProgL} {s : StL} (h : AInv p s) : Graph (edgesN p s) := edges_graph h.ow h.gi.ne h.si.len
theorem dead_enc (p : ProgL) (s : StL) : (cycSOf (edgesN p s)).map encQ = (deadL p s).map encInt := by
 unfold deadL
 rw [List.map_map]
 rfl
theorem dead_picks {p : ProgL} {s : StL} (h : AInv p s) : Picks (deadL p s) := by
 obtain ⟨h1, h2⟩ := cyc_ok (ainv_graph h)
 refine ⟨by simp [deadL]; omega, fun x hx => ?_⟩
 obtain ⟨y, hy, rfl⟩ := List.mem_map.1 hx
 have := h2 y hy
 unfold InR; omega
theorem dead_txt {p : ProgL} {s : StL} : Lib.join ((cycSOf (edgesN p s)).map fun x => Lib.itoa ((x : Nat) : Int)) [44] = txt (deadL p s) := by
 unfold txt deadL
 rw [List.map_map]
 refine congrArg (fun l => Lib.join l [44]) (List.map_congr_left fun x _ => ?_)
 show Lib.itoa ((x : Nat) : Int) = Lib.decDigits ((x : Nat) : Int).toNat
 unfold Lib.itoa
 rw [if_neg (by omega)]
def ev00 : Ev := ⟨0, 0, 0, 0, 0⟩
def faultT (s : StL) (e : Ev) : List UInt8 := [102, 97, 117, 108, 116, 32] ++ Lib.decDigits s.fault.toNat ++ [32] ++ Lib.decDigits e.th.toNat ++ [32] ++ Lib.decDigits (s.ths.getD e.th.toNat th0).rt.toNat ++ [32] ++ Lib.decDigits e.pc.toNat
noncomputable def signL (p : ProgL) (x : RunT) : List UInt8 :=
 if x.c = 1 then [100, 111, 110, 101] else if x.c = 4 then [98, 117, 100, 103, 101, 116] else if x.c = 3 then [115, 116, 117, 99, 107, 32] ++ dashT (txt (deadL p x.s)) else faultT x.s (x.tr.getLastD ev00)
theorem code_cases {p : ProgL} {s : StL} {a b : Int} (h : 0 < codeL p s a b) : (codeL p s a b = 1 ∨ codeL p s a b = 3 ∨ codeL p s a b = 4) ∨ (codeL p s a b = 2 ∧ s.fault ≠ 0) := by
 unfold codeL at h ⊢
 by_cases hf : s.fault ≠ 0
 ·rw [if_pos hf]; exact .inr ⟨rfl, hf⟩
 ·rw [if_neg hf] at h ⊢
  split
  ·split <;> simp
  ·split
   ·simp
   ·rename_i h1 h2
    rw [if_neg h1, if_neg h2] at h
    exact absurd h (by decide)
end Ai
end
section
set_option maxRecDepth 100000
namespace Ai
open Go Go.Proofs
theorem arePicks_ok (xs : List Int) (most : Nat) (hx : xs.length ≤ 1048576) : CallsTo EE 80 [sl (xs.map encInt), i64 most] (· = bp (xs.length ≤ most ∧ AllIn xs 0 999)) := by
 refine callsTo_of_AW (fn := Tryz.f80) Tryz.func80 rfl (by kernel_rfl) rfl ?_
 conv => whnf
 refine kbi (fun h => ?_) (fun h => ?_)
 ·simp at h
  conv => whnf
  refine ocase (containsInt_ok xs hx 125 (fun n => ¬ InR n 0 999) (fun n _ => arePicks1_ok n)) (fun h2 => ?_) (fun h2 => ?_)
  ·conv => whnf
   refine bpf fun hm => ?_
   obtain ⟨x, hx1, hx2⟩ := h2
   exact hx2 (hm.2 x hx1)
  ·conv => whnf
   refine bpt ⟨by omega, fun x hx1 => ?_⟩
   exact Classical.byContradiction fun hb => h2 ⟨x, hx1, hb⟩
 ·simp at h
  conv => whnf
  exact bpf fun hm => by have := hm.1; omega
end Ai
end
section
set_option maxRecDepth 100000
namespace Ai
open Go Go.Proofs Cyc
theorem l1In_yes {n lo hi : Int} (h : InR n lo hi) : CallsTo EE 52 [i64 n, i64 lo, i64 hi] (· = bv true) := by
 have := l1In_ok n lo hi
 simp only [bp, pb_t h] at this
 exact this
theorem l1All_yes {xs : List Int} {lo hi : Int} (hx : xs.length ≤ 1048576) (h : AllIn xs lo hi) : CallsTo EE 75 [sl (xs.map encInt), i64 lo, i64 hi] (· = bv true) := by
 have := l1All_ok xs lo hi hx
 simp only [bp, pb_t h] at this
 exact this
theorem GoodProg_yes {p : ProgL} (hs : p.rs.length ≤ 1048576 ∧ ∀ x ∈ p.rs, x.length ≤ 1048576) (hv : p.flt) (h : p.goodS) : CallsTo EE 39 [agg (encProg p)] (· = bv true) := by
 have := GoodProgS_ok p hs hv
 simp only [bp, pb_t h] at this
 exact this
theorem l3Thread_ok (p : ProgL) (hp : p.headS) (t : Th) (hT : TInv p t) (hG : GTh p t) : CallsTo EE 214 [agg (encProg p), agg (encTh t)] (· = bv true) := by
 obtain ⟨a1, a2, a3, a4⟩ := hp
 unfold InR at a1 a2 a3 a4
 have hr := hT.rt
 have hpc := hT.pc
 have hst := hT.st
 have e4 : IntKind.i64.wrap (((p.rs.map encRow).length : Int) - 1) = (p.rs.length : Int) - 1 := by rw [List.length_map]; exact wrap_id (by omega) (by omega)
 have e2 : IntKind.i64.wrap (p.locks - 1) = p.locks - 1 := wrap_id (by omega) (by omega)
 have e3 : IntKind.i64.wrap (p.conds - 1) = p.conds - 1 := wrap_id (by omega) (by omega)
 refine callsTo_of_AW (fn := Tryz.f214) Tryz.func214 rfl (by kernel_rfl) rfl ?_
 conv => whnf
 refine ⟨_, l1In_yes (by rw [e4]; unfold InR; omega), ?_⟩
 rintro r rfl
 conv => whnf
 refine ⟨_, l1In_yes (by unfold InR; rcases hG with h | h <;> omega), ?_⟩
 rintro r rfl
 conv => whnf
 refine kbi (fun h => ?_) (fun _ => ?_)
 ·simp at h; omega
 conv => whnf
 refine ⟨by kernel_rfl, ?_⟩
 conv => whnf
 have hrl : t.rt.toNat < p.rs.length := by omega
 refine ⟨encRow p.rs[t.rt.toNat], ⟨hr.1, by simp [hrl], rfl⟩, ?_⟩
 conv => whnf
 have e5 : p.rs.getD t.rt.toNat [] = p.rs[t.rt.toNat] := by simp [List.getD_eq_getElem?_getD, hrl]
 rw [e5] at hpc
 refine ⟨_, l1In_yes (by unfold InR; rw [List.length_map]; omega), ?_⟩
 conv => whnf
 refine kbi (fun h3 => ?_) (fun h3 => ?_)
 ·have h3 : t.st = 3 := by simpa using h3
  conv => whnf
  refine ⟨_, l1In_yes (by rw [e3]; unfold InR; rcases hG with h | h <;> omega), ?_⟩
  rintro r rfl
  conv => whnf
  refine ⟨_, l1In_yes (by rw [e2]; unfold InR; rcases hG with h | h <;> omega), ?_⟩
  rintro r rfl
  conv => whnf
  try rfl
 ·have h3 : ¬ t.st = 3 := by simpa using h3
  conv => whnf
  refine kbi (fun h4 => ?_) (fun h4 => ?_)
  ·have h4 : t.st = 4 := by simpa using h4
   conv => whnf
   refine ⟨_, l1In_yes (by rw [e3]; unfold InR; rcases hG with h | h <;> omega), ?_⟩
   rintro r rfl
   conv => whnf
   refine ⟨_, l1In_yes (by rw [e2]; unfold InR; rcases hG with h | h <;> omega), ?_⟩
   rintro r rfl
   conv => whnf
   try rfl
  ·have h4 : ¬ t.st = 4 := by simpa using h4
   obtain ⟨_, hc, hl⟩ : (t.st = 1 ∨ t.st = 2) ∧ t.cond = -1 ∧ t.lock = -1 := by
    rcases hG with h | h
    ·exact h
    ·omega
   conv => whnf
   refine kbi (fun _ => ?_) (fun h => absurd (beq_iff_eq.2 hc) h)
   conv => whnf
   refine kbi (fun _ => ?_) (fun h => absurd (beq_iff_eq.2 hl) h)
   conv => whnf
   try rfl
theorem ainv_small {p : ProgL} (hg : p.goodS) {s : StL} (h : AInv p s) : s.small := ((runOK hg).small s h.si).1
theorem prog_len {p : ProgL} (h : p.goodS) : p.rs.length ≤ 1048576 ∧ ∀ x ∈ p.rs, x.length ≤ 1048576 := by
 obtain ⟨b1, b2, b3, b4⟩ := h.1
 exact ⟨by have := b4.2; omega, fun x hx => by have := (h.2 x hx).2; omega⟩
theorem l3Good_ok (p : ProgL) (hg : p.goodS) (s : StL) (h : AInv p s) : CallsTo EE 194 [agg (encProg p), agg (encSt s)] (· = bv true) := by
 have hi := h.si
 have hl5 := hi.len
 have hne := h.gi.ne
 have hsm := ainv_small hg h
 have hgt := h.gi.ths
 have hown := h.ow
 refine callsTo_of_AW (fn := Tryz.f194) Tryz.func194 rfl (by kernel_rfl) rfl ?_
 conv => whnf
 refine ⟨_, l1In_yes (by unfold InR; rw [List.length_map]; omega), ?_⟩
 rintro r rfl
 conv => whnf
 refine kbi (fun h1 => absurd (show ((s.cells.map encF).length : Int) = p.cells by rw [List.length_map]; exact hi.cells) (by simpa using h1)) (fun _ => ?_)
 conv => whnf
 refine kbi (fun h1 => absurd (show ((s.owner.map encInt).length : Int) = p.locks by rw [List.length_map]; exact hi.owner) (by simpa using h1)) (fun _ => ?_)
 conv => whnf
 refine ⟨_, l1In_yes h.gi.fault, ?_⟩
 rintro r rfl
 conv => whnf
 refine aloop (fun k : Nat => [(2, .ptr (.n 2) 0), (3, .ptr (.n 3) 0), (35, sl (s.ths.map encTh)), (36, i64 (s.ths.map encTh).length), (37, i64 k)])
  (fun k => [(.n 2, .vs 31 ((encProg p).map .d)), (.n 3, .vs 76 ((encSt s).map .d))]) (fun k => s.ths.length - k) (fun k => k ≤ s.ths.length) 0
  Weak.refl ⟨rfl, rfl, rfl, rfl, rfl, trivial⟩ ⟨rfl, rfl, trivial⟩ (Nat.zero_le _) ?_
 intro k τ H hk
 have hk : k ≤ s.ths.length := hk
 conv => whnf
 refine kbi (fun h => ?_) (fun h => ?_)
 ·have hlt := lt_map h
  conv => whnf
  refine ⟨encTh s.ths[k], map_get encTh hlt rfl, ?_⟩
  conv => whnf
  refine ⟨_, l3Thread_ok p hg.1 s.ths[k] (hi.ths _ (List.getElem_mem hlt)) (hgt _ (List.getElem_mem hlt)), ?_⟩
  rintro r rfl
  conv => whnf
  exact ⟨k + 1, by show k + 1 ≤ s.ths.length; omega, by show s.ths.length - (k + 1) < s.ths.length - k; omega, ⟨rfl, rfl, rfl, rfl, next_i64 hlt (by omega), trivial⟩, ⟨rfl, rfl, trivial⟩⟩
 ·conv => whnf
  have e1 : IntKind.i64.wrap (((s.ths.map encTh).length : Int) - 1) = (s.ths.length : Int) - 1 := by rw [List.length_map]; exact wrap_id (by omega) (by omega)
  rw [e1]
  refine ⟨_, l1All_yes hsm.2.2.2 (fun x hx => by have := hown x hx; unfold InR; omega), ?_⟩
  rintro r rfl
  conv => whnf
  try rfl
theorem GoodState_ok (p : ProgL) (hg : p.goodS) (hv : p.flt) (s : StL) (h : AInv p s) : CallsTo EE 161 [agg (encProg p), agg (encSt s)] (· = bv true) := by
 refine callsTo_of_AW (fn := Tryz.f161) Tryz.func161 rfl (by kernel_rfl) rfl ?_
 conv => whnf
 refine ⟨_, GoodProg_yes (prog_len hg) hv hg, ?_⟩
 rintro r rfl
 conv => whnf
 refine ⟨_, l3Good_ok p hg s h, ?_⟩
 rintro r rfl
 conv => whnf
 try rfl
end Ai
end
section
set_option maxRecDepth 100000
namespace Ai
open Go Go.Proofs Cyc
theorem ainv_seen {p : ProgL} (hg : p.goodS) {s : StL} (h : AInv p s) : ∀ t ∈ s.ths, t.seen p s := (runOK hg).seen s h.si
theorem WaitsFor_ok (p : ProgL) (hp : p.wf) (hg : p.goodS) (hv : p.flt) (s : StL) (h : AInv p s) : CallsTo EE 128 [agg (encProg p), agg (encSt s)] (· = .tup [sl ((edgesL p s).map encE), bv true]) := by
 have hs := ainv_small hg h
 have hn := h.si.len
 have hse := ainv_seen hg h
 refine callsTo_of_AW (fn := Tryz.f128) Tryz.func128 rfl (by kernel_rfl) rfl ?_
 conv => whnf
 refine ⟨_, GoodState_ok p hg hv s h, ?_⟩
 rintro r rfl
 conv => whnf
 refine aloop (fun k : Nat => [(2, .ptr (.n 2) 0), (3, .ptr (.n 3) 0), (6, .ref (.n 6) 0 (edgesTo p s k).length), (15, sl (s.ths.map encTh)), (16, i64 (s.ths.map encTh).length), (17, i64 k)])
  (fun k => [(.n 2, .vs 31 ((encProg p).map .d)), (.n 3, .vs 76 ((encSt s).map .d)), (.n 6, .ds 25 1 ((edgesTo p s k).map encE))]) (fun k => s.ths.length - k) (fun k => k ≤ s.ths.length) 0
  (weak_nil 6 (.n 6) 25 1 rfl) ⟨rfl, rfl, rfl, rfl, rfl, rfl, trivial⟩ ⟨rfl, rfl, rfl, trivial⟩ (Nat.zero_le _) ?_
 intro k τ H hk
 have hk : k ≤ s.ths.length := hk
 conv => whnf
 refine kbi (fun h => ?_) (fun h => ?_)
 ·have hlt := lt_map h
  conv => whnf
  refine ⟨encTh s.ths[k], map_get encTh hlt rfl, ?_⟩
  conv => whnf
  have hgd : s.ths.getD k th0 = s.ths[k] := by simp [List.getD_eq_getElem?_getD, hlt]
  have hle : (edgesTo p s k).length ≤ k := edgesTo_le
  refine ⟨_, l3Blocks_ok toIndexS idxRange p s s.ths[k] hp (hs.2.1 _ (List.getElem_mem hlt)) (hse _ (List.getElem_mem hlt)), ?_⟩
  rintro r rfl
  conv => whnf
  refine kbi (fun hb => ?_) (fun hb => ?_)
  ·have hb : 0 ≤ blocksOf p s s.ths[k] := by simpa using hb
   have hsk : edgesTo p s (k + 1) = edgesTo p s k ++ [(k, blocksOf p s s.ths[k])] := by rw [edgesTo_succ, hgd, if_pos hb]
   conv => whnf
   refine .inl ?_
   conv => whnf
   refine ⟨⟨rfl, by show ((edgesTo p s k).length + 1) * 24 ≤ _; omega, by show (edgesTo p s k).length + 1 ≤ _; omega⟩, ?_⟩
   conv => whnf
   refine ⟨k + 1, by show k + 1 ≤ s.ths.length; omega, by show s.ths.length - (k + 1) < s.ths.length - k; omega, ⟨rfl, rfl, ?_, rfl, rfl, next_i64 hlt (by omega), trivial⟩, ⟨rfl, rfl, ?_, trivial⟩⟩
   ·rw [hsk]
    show AV.ref (.n 6) 0 ((edgesTo p s k).length + 1) = _
    simp
   ·rw [hsk]
    show some (Ob.ds 25 1 (((edgesTo p s k).map encE).take (edgesTo p s k).length ++ [encE (k, blocksOf p s s.ths[k])])) = _
    rw [List.take_of_length_le (by simp)]
    simp
  ·have hb : ¬ 0 ≤ blocksOf p s s.ths[k] := by simpa using hb
   conv => whnf
   have hsk : edgesTo p s (k + 1) = edgesTo p s k := by rw [edgesTo_succ, hgd, if_neg hb]; simp
   refine ⟨k + 1, by show k + 1 ≤ s.ths.length; omega, by show s.ths.length - (k + 1) < s.ths.length - k; omega, ⟨rfl, rfl, ?_, rfl, rfl, next_i64 hlt (by omega), trivial⟩, ⟨rfl, rfl, ?_, trivial⟩⟩
   ·rw [hsk]; rfl
   ·rw [hsk]; rfl
 ·have hge : s.ths.length ≤ k := by simpa using h
  have hkk : k = s.ths.length := by omega
  subst hkk
  conv => whnf
  refine .inl ?_
  conv => whnf
  have e : (((edgesTo p s s.ths.length).map encE).drop 0).take (edgesTo p s s.ths.length).length = (edgesL p s).map encE := by rw [List.drop_zero, List.take_of_length_le (by simp)]; rfl
  first | exact congrArg (fun x => AV.tup [sl x, bv true]) e | (rw [← e]; rfl) | trace_state
theorem l4Dead_ok (p : ProgL) (hp : p.wf) (hg : p.goodS) (hv : p.flt) (c : Int) (tr : List Ev) (tk : List Int) (s : StL) (h : AInv p s) : CallsTo EE 89 [agg (encProg p), agg (encRun c tr tk s)] (· = sl ((deadL p s).map encInt)) := by
 refine callsTo_of_AW (fn := Tryz.f89) Tryz.func89 rfl (by kernel_rfl) rfl ?_
 conv => whnf
 refine ⟨_, WaitsFor_ok p hp hg hv s h, ?_⟩
 rintro r rfl
 conv => whnf
 rw [edges_enc]
 refine ⟨_, l3CycleG_ok (edgesN p s) (ainv_graph h), ?_⟩
 rintro r rfl
 conv => whnf
 rw [dead_enc]
theorem last_at {tr : List Ev} (h : tr ≠ []) (hl : (tr.length : Int) ≤ 1048576) : 0 ≤ IntKind.i64.wrap (((tr.map encEv).length : Int) - 1) ∧ (tr.map encEv)[(IntKind.i64.wrap (((tr.map encEv).length : Int) - 1)).toNat]? = some (encEv (tr.getLastD ev00)) ∧ tr.getLastD ev00 ∈ tr := by
 have hp : 0 < tr.length := List.length_pos_iff.2 h
 have e : IntKind.i64.wrap (((tr.map encEv).length : Int) - 1) = ((tr.length - 1 : Nat) : Int) := by
  rw [List.length_map, wrap_id (by omega) (by omega)]; omega
 have e2 : tr.getLastD ev00 = tr[tr.length - 1] := by
  rw [List.getLastD_eq_getLast?, List.getLast?_eq_getElem?, List.getElem?_eq_getElem (by omega)]; rfl
 rw [e, e2]
 refine ⟨by omega, ?_, List.getElem_mem _⟩
 rw [Int.toNat_natCast, List.getElem?_map, List.getElem?_eq_getElem (by omega)]; rfl
theorem dec_ne (n : Nat) : Lib.decDigits n ≠ [] := by
 rw [Lib.decDigits]
 split <;> simp
theorem txt_ne {l : List Int} (h : l ≠ []) : txt l ≠ [] := by
 cases l with
 |nil => exact absurd rfl h
 |cons x xs =>
  unfold txt
  rw [List.map_cons, Lib.join_cons]
  intro e
  exact dec_ne _ (List.append_eq_nil_iff.1 e).1
theorem l4Sign_ok (p : ProgL) (hp : p.wf) (hg : p.goodS) (hv : p.flt) (budget : Int) (x : RunT) (h : REnd p budget x) (hb : budget ≤ 1048576) : CallsTo EE 54 [agg (encProg p), agg (encRT x)] (· = sv (signL p x)) := by
 obtain ⟨c, tr, tk, s⟩ := x
 have hcode : c = codeL p s tr.length budget := h.code
 have hpos : 0 < c := h.pos
 have hcs := code_cases (show 0 < codeL p s tr.length budget by rw [← hcode]; exact hpos)
 rw [← hcode] at hcs
 have hi : AInv p s := h.inv
 have hT : TrOK s tr := h.tr
 have hle : (tr.length : Int) ≤ budget := h.le
 unfold signL
 show CallsTo EE 54 [agg (encProg p), agg (encRun c tr tk s)] (· = sv (if c = 1 then [100, 111, 110, 101] else if c = 4 then [98, 117, 100, 103, 101, 116] else if c = 3 then [115, 116, 117, 99, 107, 32] ++ dashT (txt (deadL p s)) else faultT s (tr.getLastD ev00)))
 refine callsTo_of_AW (fn := Tryz.f54) Tryz.func54 rfl (by kernel_rfl) rfl ?_
 conv => whnf
 refine kbi (fun h1 => ?_) (fun h1 => ?_)
 ·have h1 : c = 1 := by simpa using h1
  rw [if_pos h1]
  conv => whnf
  try rfl
 have h1 : ¬ c = 1 := by simpa using h1
 rw [if_neg h1]
 conv => whnf
 refine kbi (fun h4 => ?_) (fun h4 => ?_)
 ·have h4 : c = 4 := by simpa using h4
  rw [if_pos h4]
  conv => whnf
  try rfl
 have h4 : ¬ c = 4 := by simpa using h4
 rw [if_neg h4]
 conv => whnf
 refine kbi (fun h2 => ?_) (fun h2 => ?_)
 ·have h2 : c = 2 := by simpa using h2
  rw [if_neg (by omega)]
  conv => whnf
  have hf : s.fault ≠ 0 := by
   rcases hcs with h | h
   ·omega
   ·exact h.2
  have hne := hT.ne hf
  have hpt : 0 < tr.length := List.length_pos_iff.2 hne
  obtain ⟨e1, e2, e3⟩ := last_at hne (by omega)
  have hev := hT.ev _ e3
  refine ⟨encEv (tr.getLastD ev00), ⟨e1, e2, rfl⟩, ?_⟩
  generalize tr.getLastD ev00 = e at *
  conv => whnf
  refine ⟨by kernel_rfl, ?_⟩
  conv => whnf
  have hfa := hi.gi.fault
  unfold InR at hfa
  refine ⟨_, l1Num_ok s.fault hfa.1 (by omega), ?_⟩
  conv => whnf
  have hev1 : e.th.toNat < s.ths.length := by omega
  have hrt := (hi.si.ths _ (List.getElem_mem hev1)).rt
  have hn4 := hg.1.2.2.2
  unfold InR at hn4
  have d1 : (Lib.decDigits s.fault.toNat).length ≤ 1 := digits_len _ 1 (by omega) (by omega)
  have hl5 := hi.si.len
  have d2 : (Lib.decDigits e.th.toNat).length ≤ 1 := digits_len _ 1 (by omega) (by omega)
  have d3 : (Lib.decDigits s.ths[e.th.toNat].rt.toNat).length ≤ 1 := digits_len _ 1 (by omega) (by omega)
  have d4 : (Lib.decDigits e.pc.toNat).length ≤ 2 := digits_len _ 2 (by omega) (by omega)
  have hgd : s.ths.getD e.th.toNat th0 = s.ths[e.th.toNat] := by simp [List.getD_eq_getElem?_getD, hev1]
  refine ⟨by simp; omega, ?_⟩
  conv => whnf
  refine ⟨by simp; omega, ?_⟩
  conv => whnf
  refine ⟨_, l1Num_ok e.th hev.1 (by omega), ?_⟩
  conv => whnf
  refine ⟨by simp; omega, ?_⟩
  conv => whnf
  refine ⟨by simp; omega, ?_⟩
  conv => whnf
  refine ⟨encTh s.ths[e.th.toNat], ⟨hev.1, by simp [hev1], rfl⟩, ?_⟩
  conv => whnf
  refine ⟨_, l1Num_ok s.ths[e.th.toNat].rt hrt.1 (by omega), ?_⟩
  conv => whnf
  refine ⟨by simp; omega, ?_⟩
  conv => whnf
  refine ⟨by simp; omega, ?_⟩
  conv => whnf
  refine ⟨_, l1Num_ok e.pc hev.2.2.1 (by omega), ?_⟩
  conv => whnf
  refine ⟨by simp; omega, ?_⟩
  conv => whnf
  unfold faultT
  rw [hgd]
  try rfl
 ·have h2 : ¬ c = 2 := by simpa using h2
  rw [if_pos (by omega)]
  conv => whnf
  refine ⟨_, l4Dead_ok p hp hg hv c tr tk s hi, ?_⟩
  rintro r rfl
  conv => whnf
  have hd := dead_picks hi
  refine kbi (fun h3 => ?_) (fun h3 => ?_)
  ·have h3 : 0 < (deadL p s).length := by simpa using h3
   conv => whnf
   refine ⟨_, l4List_ok (deadL p s) hd, ?_⟩
   rintro r rfl
   conv => whnf
   have htl := txt_len (deadL p s) hd.2 (deadL p s).length (Nat.le_refl _)
   rw [List.take_length] at htl
   have h200 := hd.1
   refine ⟨by show 6 + _ ≤ _; omega, ?_⟩
   conv => whnf
   have hne : txt (deadL p s) ≠ [] := txt_ne (by intro e; rw [e] at h3; simp at h3)
   unfold dashT
   rw [if_neg hne]
   try rfl
  ·have h3 : deadL p s = [] := by
    have : ¬ 0 < (deadL p s).length := by simpa using h3
    exact List.length_eq_zero_iff.1 (by omega)
   conv => whnf
   rw [h3]
   try rfl
end Ai
end
section
set_option maxRecDepth 100000
namespace Ai
open Go Go.Proofs Cyc
def fNums (s : StL) (e : Ev) : List Int := [s.fault, e.th, (s.ths.getD e.th.toNat th0).rt, e.pc]
def fText (s : StL) (e : Ev) (k : Nat) : List UInt8 := [102, 97, 117, 108, 116] ++ (((fNums s e).take k).map fun n => 32 :: Lib.decDigits n.toNat).flatten
theorem fText_succ (s : StL) (e : Ev) (k : Nat) (h : k < (fNums s e).length) : fText s e (k + 1) = fText s e k ++ 32 :: Lib.decDigits ((fNums s e)[k]).toNat := by
 unfold fText
 rw [List.take_add_one, List.getElem?_eq_getElem h]
 simp only [Option.toList, List.map_append, List.flatten_append, List.map_cons, List.map_nil, List.flatten_cons, List.flatten_nil, List.append_nil, List.append_assoc]
theorem fText_end (s : StL) (e : Ev) : fText s e 4 = faultT s e := by
 simp [fText, fNums, faultT]
theorem fText_len (s : StL) (e : Ev) (h : ∀ n ∈ fNums s e, InR n 0 999) : ∀ k, k ≤ 4 → (fText s e k).length ≤ 5 + 4 * k
 | 0, _ => by simp [fText]
 |k + 1, hk => by
  have hl : k < (fNums s e).length := by show k < 4; omega
  have h1 := fText_len s e h k (by omega)
  have h2 := h _ (List.getElem_mem hl)
  unfold InR at h2
  have d1 : (Lib.decDigits ((fNums s e)[k]).toNat).length ≤ 3 := digits_len _ 3 (by omega) (by omega)
  rw [fText_succ s e k hl, List.length_append, List.length_cons]
  omega
theorem itoaL_nat {n : Int} (h : 0 ≤ n) : Lib.itoa n = Lib.decDigits n.toNat := by unfold Lib.itoa; rw [if_neg (by omega)]
theorem signOf_fault (p : ProgL) (hg : p.goodS) (s : StL) (tr : List Ev) (tk : List Int) (hi : AInv p s) (hT : TrOK s tr) (hne : tr ≠ []) (hl : (tr.length : Int) ≤ 1048576) : CallsTo EE 59 [agg (encProg p), agg (encRun 2 tr tk s)] (· = sv (faultT s (tr.getLastD ev00))) := by
 obtain ⟨e1, e2, e3⟩ := last_at hne (by omega)
 have hev := hT.ev _ e3
 refine callsTo_of_AW (fn := Tryz.f59) Tryz.func59 rfl (by kernel_rfl) rfl ?_
 conv => whnf
 refine kbi (fun h => absurd h (by decide)) (fun _ => ?_)
 conv => whnf
 refine kbi (fun h => absurd h (by decide)) (fun _ => ?_)
 conv => whnf
 refine kbi (fun h => absurd h (by decide)) (fun _ => ?_)
 conv => whnf
 refine ⟨encEv (tr.getLastD ev00), ⟨e1, e2, rfl⟩, ?_⟩
 generalize tr.getLastD ev00 = e at *
 conv => whnf
 refine ⟨by kernel_rfl, ?_⟩
 conv => whnf
 have hev1 : e.th.toNat < s.ths.length := by omega
 refine ⟨encTh s.ths[e.th.toNat], ⟨hev.1, by simp [hev1], rfl⟩, ?_⟩
 conv => whnf
 have hrt := (hi.si.ths _ (List.getElem_mem hev1)).rt
 have hgd : s.ths.getD e.th.toNat th0 = s.ths[e.th.toNat] := by simp [List.getD_eq_getElem?_getD, hev1]
 have hl5 := hi.si.len
 have hn4 := hg.1.2.2.2
 have hfa := hi.gi.fault
 unfold InR at hn4 hfa
 have hin : ∀ n ∈ fNums s e, InR n 0 999 := by
  intro n hn
  unfold fNums at hn
  rw [hgd] at hn
  simp only [List.mem_cons, List.not_mem_nil, or_false] at hn
  unfold InR
  rcases hn with h | h | h | h <;> omega
 refine aloop (fun k : Nat => [(8, sv (fText s e k)), (53, sl ((fNums s e).map encInt)), (54, i64 4), (55, i64 k)]) (fun k => []) (fun k => 4 - k) (fun k => k ≤ 4) 0
  Weak.refl ⟨rfl, ?_, rfl, rfl, trivial⟩ trivial (Nat.zero_le _) ?_
 ·unfold fNums; rw [hgd]; rfl
 intro k τ H hk
 have hk : k ≤ 4 := hk
 conv => whnf
 refine kbi (fun h => ?_) (fun h => ?_)
 ·have hk4 : k < 4 := by
   have := of_decide_eq_true h
   omega
  have hlt : k < (fNums s e).length := hk4
  have hr := hin _ (List.getElem_mem hlt)
  unfold InR at hr
  have d1 : (Lib.decDigits ((fNums s e)[k]).toNat).length ≤ 3 := digits_len _ 3 (by omega) (by omega)
  have hfl := fText_len s e hin k hk
  have hit := itoaL_nat hr.1
  conv => whnf
  refine ⟨encInt (fNums s e)[k], map_get encInt hlt rfl, ?_⟩
  conv => whnf
  refine ⟨_, Itoa_ok (fNums s e)[k] (by omega) (by omega), ?_⟩
  rintro r rfl
  conv => whnf
  rw [hit]
  refine ⟨by show 1 + _ ≤ _; omega, ?_⟩
  conv => whnf
  refine ⟨by simp; omega, ?_⟩
  conv => whnf
  refine ⟨k + 1, by show k + 1 ≤ 4; omega, by show 4 - (k + 1) < 4 - k; omega, ⟨?_, rfl, rfl, ?_, trivial⟩, trivial⟩
  ·exact congrArg sv (fText_succ s e k hlt).symm
  ·show AV.d (.int .i64 (IntKind.i64.wrap ((k : Int) + 1))) = i64 ((k + 1 : Nat) : Int)
   rw [wrap_id (by omega) (by omega)]
   rfl
 ·have hk4 : k = 4 := by
   have : ¬ (k : Int) < 4 := fun e => h (decide_eq_true e)
   omega
  subst hk4
  conv => whnf
  rw [fText_end]
  try rfl
theorem signOf_ok (p : ProgL) (hp : p.wf) (hg : p.goodS) (budget : Int) (x : RunT) (h : REnd p budget x) (hb : budget ≤ 1048576) : CallsTo EE 59 [agg (encProg p), agg (encRT x)] (· = sv (signL p x)) := by
 obtain ⟨c, tr, tk, s⟩ := x
 have hcode : c = codeL p s tr.length budget := h.code
 have hpos : 0 < c := h.pos
 have hcs := code_cases (show 0 < codeL p s tr.length budget by rw [← hcode]; exact hpos)
 rw [← hcode] at hcs
 have hi : AInv p s := h.inv
 have hT : TrOK s tr := h.tr
 have hle : (tr.length : Int) ≤ budget := h.le
 unfold signL
 show CallsTo EE 59 [agg (encProg p), agg (encRun c tr tk s)] (· = sv (if c = 1 then [100, 111, 110, 101] else if c = 4 then [98, 117, 100, 103, 101, 116] else if c = 3 then [115, 116, 117, 99, 107, 32] ++ dashT (txt (deadL p s)) else faultT s (tr.getLastD ev00)))
 rcases hcs with (rfl | rfl | rfl) | ⟨rfl, hf⟩
 ·exact signOf_done p s tr tk
 ·have hd := dead_picks hi
  have hc := cyc_ok (ainv_graph hi)
  have htl := txt_len (deadL p s) hd.2 (deadL p s).length (Nat.le_refl _)
  rw [List.take_length] at htl
  have := signOf_stuck p s 3 tr tk hp (ainv_small hg hi) (ainv_seen hg hi) (ainv_graph hi) rfl (by omega) (fun x hx => by have := hc.2 x hx; omega) (by rw [dead_txt]; have := hd.1; omega)
  rw [dead_txt] at this
  exact this
 ·exact signOf_budget p s tr tk
 ·exact signOf_fault p hg s tr tk hi hT (hT.ne hf) (by omega)
end Ai
end
section
set_option maxRecDepth 100000
namespace Ai
open Go Go.Proofs
theorem szOpS_ok (xs : List (List D)) (left : Int) (h0 : 0 ≤ left) (h1 : left ≤ 1048576) (hx : xs.length ≤ 9223372036854775807) :
  CallsTo EE 73 [sl xs, i64 left] (szR left xs.length) := by
 refine callsTo_of_AW (fn := Tryz.f73) Tryz.func73 rfl (by kernel_rfl) rfl ?_
 conv => whnf
 rw [wrap_id (by omega) (by omega)]
 refine ⟨fun h => ?_, fun h => ?_⟩
 ·conv => whnf
  exact ⟨-1, rfl, by omega, by omega, by omega⟩
 ·conv => whnf
  simp at h
  exact ⟨_, rfl, by omega, by omega, by omega⟩
theorem szIntS_ok (xs : List (List D)) (left : Int) (h0 : 0 ≤ left) (h1 : left ≤ 1048576) (hx : xs.length ≤ 9223372036854775807) :
  CallsTo EE 70 [sl xs, i64 left] (szR left xs.length) := by
 refine callsTo_of_AW (fn := Tryz.f70) Tryz.func70 rfl (by kernel_rfl) rfl ?_
 conv => whnf
 rw [wrap_id (by omega) (by omega)]
 refine ⟨fun h => ?_, fun h => ?_⟩
 ·conv => whnf
  exact ⟨-1, rfl, by omega, by omega, by omega⟩
 ·conv => whnf
  simp at h
  exact ⟨_, rfl, by omega, by omega, by omega⟩
theorem szOpSS_ok (xs : List (List OpL)) (left : Int) (h0 : 0 ≤ left) (h1 : left ≤ 1048576) (hx : xs.length ≤ 9223372036854775807) (hx2 : ∀ x ∈ xs, x.length ≤ 9223372036854775807) :
  CallsTo EE 38 [sl (xs.map encRow), i64 left] (szR left (sizeSS List.length xs)) := by
 refine callsTo_of_AW (fn := Tryz.f38) Tryz.func38 rfl (by kernel_rfl) rfl ?_
 conv => whnf
 rw [wrap_id (by simp; omega) (by simp; omega), List.length_map]
 refine ⟨fun h => ?_, fun h => ?_⟩
 ·conv => whnf
  exact ⟨-1, rfl, by omega, by omega, by omega⟩
 ·simp at h
  conv => whnf
  refine aloop (fun x : Nat × Int => [(0, sl (xs.map encRow)), (5, i64 x.1), (1, i64 x.2)]) (fun _ => []) (fun x => xs.length - x.1)
   (fun x => x.1 ≤ xs.length ∧ 0 ≤ x.2 ∧ (xs.length : Int) + ((xs.map List.length).take x.1).sum + x.2 ≤ left) (0, left - xs.length) .refl ⟨rfl, rfl, rfl, trivial⟩ trivial ⟨by omega, by omega, by simp; omega⟩ ?_
  rintro ⟨k, l⟩ τ H ⟨hk, hl, hs⟩
  dsimp only at hk hl hs
  conv => whnf
  refine ⟨fun h => ?_, fun h => ?_⟩
  ·have hlt := lt_map h
   conv => whnf
   refine ⟨encRow xs[k], map_get encRow hlt rfl, ?_⟩
   conv => whnf
   refine ⟨_, szOpS_ok _ l hl (by omega) (by simpa using hx2 _ (List.getElem_mem hlt)), ?_⟩
   rintro r ⟨n, rfl, hn1, hn2, hn3⟩
   conv => whnf
   refine ⟨fun h => ?_, fun h => ?_⟩
   ·conv => whnf
    exact ⟨-1, rfl, by omega, by omega, by omega⟩
   ·simp at h
    conv => whnf
    refine ⟨(k + 1, n), ⟨by omega, by omega, ?_⟩, by show xs.length - (k + 1) < xs.length - k; omega, ⟨rfl, next_i64 hlt hx, rfl, trivial⟩, trivial⟩
    have hm : k < (xs.map List.length).length := by simpa using hlt
    rw [sum_take_succ _ _ hm]
    have := hn3 h
    simp at this ⊢
    omega
  ·have hge := ge_map h
   conv => whnf
   have hkk : k = xs.length := by omega
   subst hkk
   refine ⟨_, rfl, by omega, ?_, ?_⟩
   ·omega
   ·intro _
    simp only [sizeSS]
    rw [List.take_of_length_le (by simp)] at hs
    simp at hs ⊢
    omega
theorem szFound_ok (s : FoundL) (left : Int) (h0 : 0 ≤ left) (h1 : left ≤ 1048576) (hs : s.wf) : CallsTo EE 33 [agg (encFound s), i64 left] (szR left s.size) := by
 have hs1 := hs.1
 refine callsTo_of_AW (fn := Tryz.f33) Tryz.func33 rfl (by kernel_rfl) rfl ?_
 conv => whnf
 rw [wrap_id (by omega) (by omega)]
 refine ⟨fun h => ?_, fun h => ?_⟩
 ·conv => whnf
  exact ⟨-1, rfl, by omega, by omega, by omega⟩
 ·simp at h
  conv => whnf
  refine ⟨_, szIntS_ok _ _ (by omega) (by omega) (by simpa using hs.2), ?_⟩
  rintro r ⟨n2, rfl, hm1, hm2, hm3⟩
  conv => whnf
  refine ⟨fun h => ?_, fun h => ?_⟩
  ·conv => whnf
   exact ⟨-1, rfl, by omega, by omega, by omega⟩
  ·simp at h
   conv => whnf
   refine ⟨_, rfl, by omega, by omega, fun _ => ?_⟩
   have e2 := hm3 (by omega)
   simp only [List.length_map] at e2
   simp only [FoundL.size]
   omega
theorem szProg_ok (p : ProgL) (left : Int) (h0 : 0 ≤ left) (h1 : left ≤ 1048576) (hs : p.wf) : CallsTo EE 11 [agg (encProg p), i64 left] (szR left p.size) := by
 refine callsTo_of_AW (fn := Tryz.f11) Tryz.func11 rfl (by kernel_rfl) rfl ?_
 conv => whnf
 refine ⟨_, szOpSS_ok _ left h0 h1 hs.1 hs.2, ?_⟩
 rintro r ⟨n, rfl, hn1, hn2, hn3⟩
 conv => whnf
 refine ⟨fun h => ?_, fun h => ?_⟩
 ·conv => whnf
  exact ⟨-1, rfl, by omega, by omega, by omega⟩
 ·simp at h
  conv => whnf
  exact ⟨_, rfl, by omega, by omega, hn3⟩
end Ai
end
section
set_option maxRecDepth 100000
namespace Ai
open Go Go.Proofs
theorem ne_self_int (n : Int) (h : (n != n) = true) : False := by simp at h
theorem eqIntS_ok (xs : List Int) (hx : xs.length ≤ 1048576) : CallsTo EE 17 [sl (xs.map encInt), sl (xs.map encInt)] (· = bv true) := by
 refine callsTo_of_AW (fn := Tryz.f17) Tryz.func17 rfl (by kernel_rfl) rfl ?_
 conv => whnf
 refine ⟨fun h => (ne_self_int _ h).elim, fun _ => ?_⟩
 conv => whnf
 refine aloop (fun k : Nat => [(0, sl (xs.map encInt)), (1, sl (xs.map encInt)), (5, i64 k)]) (fun k => []) (fun k => xs.length - k) (fun k => k ≤ xs.length) 0 .refl ⟨rfl, rfl, rfl, trivial⟩ trivial (Nat.zero_le _) ?_
 intro k τ H hk
 conv => whnf
 refine ⟨fun h => ?_, fun h => ?_⟩
 ·have hlt := lt_map h
  conv => whnf
  refine ⟨by kernel_rfl, ?_⟩
  conv => whnf
  refine ⟨encInt xs[k], map_get encInt hlt rfl, ?_⟩
  conv => whnf
  refine ⟨encInt xs[k], map_get encInt hlt rfl, ?_⟩
  conv => whnf
  refine ⟨fun h => (ne_self_int _ h).elim, fun _ => ?_⟩
  conv => whnf
  refine ⟨k + 1, by omega, by show xs.length - (k + 1) < xs.length - k; omega, ⟨rfl, rfl, next_i64 hlt (by omega), trivial⟩, trivial⟩
 ·conv => whnf
theorem sameFloat_ok (x : Nat) : CallsTo EE 160 [.d (.flt x), .d (.flt x)] (· = bv true) := by
 refine callsTo_of_AW (fn := Tryz.f160) Tryz.func160 rfl (by kernel_rfl) rfl ?_
 conv => whnf
 repeat' (refine kbi (fun h => ?_) (fun h => ?_) <;> first | contradiction | conv => whnf)
 all_goals simp [fcmp_ne] at *
 all_goals simp_all
theorem eqOp_ok (x : OpL) : CallsTo EE 127 [agg (encOp x), agg (encOp x)] (· = bv true) := by
 refine callsTo_of_AW (fn := Tryz.f127) Tryz.func127 rfl (by kernel_rfl) rfl ?_
 conv => whnf
 refine ⟨fun h => (ne_self_int _ h).elim, fun _ => ?_⟩
 conv => whnf
 refine ⟨fun h => (ne_self_int _ h).elim, fun _ => ?_⟩
 conv => whnf
 refine ⟨fun h => (ne_self_int _ h).elim, fun _ => ?_⟩
 conv => whnf
 refine ⟨_, sameFloat_ok x.v, ?_⟩
 rintro r rfl
 conv => whnf
theorem eqFound_ok (x : FoundL) (h : x.picks.length ≤ 1048576) : CallsTo EE 37 [agg (encFound x), agg (encFound x)] (· = bv true) := by
 refine callsTo_of_AW (fn := Tryz.f37) Tryz.func37 rfl (by kernel_rfl) rfl ?_
 conv => whnf
 refine ⟨fun h => (by simp at h), fun _ => ?_⟩
 conv => whnf
 refine ⟨_, eqIntS_ok _ h, ?_⟩
 rintro r rfl
 conv => whnf
theorem eqOpS_ok (xs : List OpL) (hx : xs.length ≤ 1048576) : CallsTo EE 82 [sl (xs.map encOp), sl (xs.map encOp)] (· = bv true) := by
 refine callsTo_of_AW (fn := Tryz.f82) Tryz.func82 rfl (by kernel_rfl) rfl ?_
 conv => whnf
 refine ⟨fun h => (ne_self_int _ h).elim, fun _ => ?_⟩
 conv => whnf
 refine aloop (fun k : Nat => [(0, sl (xs.map encOp)), (1, sl (xs.map encOp)), (5, i64 k)]) (fun k => []) (fun k => xs.length - k) (fun k => k ≤ xs.length) 0 .refl ⟨rfl, rfl, rfl, trivial⟩ trivial (Nat.zero_le _) ?_
 intro k τ H hk
 conv => whnf
 refine ⟨fun h => ?_, fun h => ?_⟩
 ·have hlt := lt_map h
  conv => whnf
  refine ⟨by kernel_rfl, ?_⟩
  conv => whnf
  refine ⟨encOp xs[k], map_get encOp hlt rfl, ?_⟩
  conv => whnf
  refine ⟨encOp xs[k], map_get encOp hlt rfl, ?_⟩
  conv => whnf
  refine ⟨_, eqOp_ok xs[k], ?_⟩
  conv => whnf
  refine ⟨k + 1, by omega, by show xs.length - (k + 1) < xs.length - k; omega, ⟨rfl, rfl, next_i64 hlt (by omega), trivial⟩, trivial⟩
 ·conv => whnf
theorem eqOpSS_ok (xs : List (List OpL)) (hx : xs.length ≤ 1048576) (hx2 : ∀ x ∈ xs, x.length ≤ 1048576) : CallsTo EE 46 [sl (xs.map encRow), sl (xs.map encRow)] (· = bv true) := by
 refine callsTo_of_AW (fn := Tryz.f46) Tryz.func46 rfl (by kernel_rfl) rfl ?_
 conv => whnf
 refine ⟨fun h => (ne_self_int _ h).elim, fun _ => ?_⟩
 conv => whnf
 refine aloop (fun k : Nat => [(0, sl (xs.map encRow)), (1, sl (xs.map encRow)), (5, i64 k)]) (fun k => []) (fun k => xs.length - k) (fun k => k ≤ xs.length) 0 .refl ⟨rfl, rfl, rfl, trivial⟩ trivial (Nat.zero_le _) ?_
 intro k τ H hk
 conv => whnf
 refine ⟨fun h => ?_, fun h => ?_⟩
 ·have hlt := lt_map h
  conv => whnf
  refine ⟨by kernel_rfl, ?_⟩
  conv => whnf
  refine ⟨encRow xs[k], map_get encRow hlt rfl, ?_⟩
  conv => whnf
  refine ⟨encRow xs[k], map_get encRow hlt rfl, ?_⟩
  conv => whnf
  refine ⟨_, eqOpS_ok xs[k] (hx2 _ (List.getElem_mem hlt)), ?_⟩
  conv => whnf
  refine ⟨k + 1, by omega, by show xs.length - (k + 1) < xs.length - k; omega, ⟨rfl, rfl, next_i64 hlt (by omega), trivial⟩, trivial⟩
 ·conv => whnf
theorem eqProg_ok (p : ProgL) (h : p.rs.length ≤ 1048576 ∧ ∀ x ∈ p.rs, x.length ≤ 1048576) : CallsTo EE 16 [agg (encProg p), agg (encProg p)] (· = bv true) := by
 refine callsTo_of_AW (fn := Tryz.f16) Tryz.func16 rfl (by kernel_rfl) rfl ?_
 conv => whnf
 refine ⟨fun h => (ne_self_int _ h).elim, fun _ => ?_⟩
 conv => whnf
 refine ⟨fun h => (ne_self_int _ h).elim, fun _ => ?_⟩
 conv => whnf
 refine ⟨fun h => (ne_self_int _ h).elim, fun _ => ?_⟩
 conv => whnf
 refine ⟨_, eqOpSS_ok _ h.1 h.2, ?_⟩
 rintro r rfl
 conv => whnf
end Ai
end
section
set_option maxRecDepth 100000
namespace Ai
open Go Go.Proofs Cyc
def Still (p : ProgL) (picks : List Int) (sign : List UInt8) : Prop := signL p (runOf p picks 200) = sign
theorem still_ok (p : ProgL) (hp : p.wf) (hg : p.goodS) (hv : p.flt) (picks : List Int) (sign : List UInt8) (hpk : ∀ i ∈ picks, 0 ≤ i) (hl : picks.length ≤ 1048576) : CallsTo EE 45 [agg (encProg p), sl (picks.map encInt), sv sign] (· = bp (Still p picks sign)) := by
 refine callsTo_of_AW (fn := Tryz.f45) Tryz.func45 rfl (by kernel_rfl) rfl ?_
 conv => whnf
 refine ⟨by kernel_rfl, ?_⟩
 conv => whnf
 refine ⟨_, runPicks_of p hp hg hv picks 200 hpk hl (by unfold InR; omega), ?_⟩
 conv => whnf
 refine ⟨_, signOf_ok p hp hg 200 _ (runOf_end hg hv picks 200 hpk (by omega)) (by omega), ?_⟩
 conv => whnf
 refine ⟨fun h => ?_, fun h => ?_⟩
 ·conv => whnf
  exact bpt (eq_of_beq h)
 ·conv => whnf
  exact bpf (fun e => by rw [Still] at e; simp [e] at h)
def Picks6 (xs : List Int) : Prop := xs.length ≤ 60 ∧ AllIn xs 0 999
theorem Picks6.nn {xs : List Int} (h : Picks6 xs) : ∀ i ∈ xs, 0 ≤ i := fun i hi => (h.2 i hi).1
end Ai
end
section
set_option maxRecDepth 100000
namespace Ai
open Go Go.Proofs Cyc
theorem count_succ {s : List UInt8} {b : UInt8} {i : Nat} (h : i < s.length) : (s.take (i + 1)).count b = (s.take i).count b + (if s[i] = b then 1 else 0) := by
 rw [List.take_succ_eq_append_getElem h, List.count_append]
 by_cases e : s[i] = b
 ·rw [if_pos e, e]; simp
 ·rw [if_neg e]; simp [List.count_singleton, e]
theorem l1Split_ok (s : List UInt8) (b : UInt8) (hs : s.length ≤ 1048576) : CallsTo EE 117 [sv s, .d (.int .u8 b.toNat)] (fun r => ∃ rows, r = .uq 9 1 rows ∧ rows.length = s.count b + 1 ∧ ∀ c ∈ rows, c.all flatD = true) := by
 refine callsTo_of_AW (fn := Tryz.f117) Tryz.func117 rfl (by kernel_rfl) rfl ?_
 conv => whnf
 refine aloop (fun x : Nat × Nat × List (List UInt8) => [(0, sv s), (1, .d (.int .u8 b.toNat)), (5, .ref (.n 50) 0 x.2.2.length), (6, i64 (x.2.1 : Int)), (7, i64 (x.1 : Int))]) (fun x => [(.n 50, .ds 9 1 (x.2.2.map encStr))]) (fun x => s.length - x.1)
  (fun x => x.1 ≤ s.length ∧ x.2.1 ≤ x.1 ∧ x.2.2.length = (s.take x.1).count b) (0, 0, []) (weak_nil 5 (.n 50) 9 1 rfl) ⟨rfl, rfl, rfl, rfl, rfl, trivial⟩ ⟨rfl, trivial⟩ ⟨Nat.zero_le _, Nat.le_refl _, by simp⟩ ?_
 rintro ⟨i, st, rows⟩ τ H ⟨hi, hst, hr⟩
 have hi : i ≤ s.length := hi
 have hst : st ≤ i := hst
 have hr : rows.length = (s.take i).count b := hr
 have hrl : rows.length ≤ s.length := by
  have := List.count_le_length (l := s.take i) (a := b)
  simp at this; omega
 conv => whnf
 refine kbi (fun h => ?_) (fun h => ?_)
 ·have hlt : i < s.length := by simpa using h
  have hcs := count_succ (b := b) hlt
  conv => whnf
  refine ⟨s[i], ⟨by omega, by simp [hlt]⟩, ?_⟩
  conv => whnf
  refine kbi (fun h2 => ?_) (fun h2 => ?_)
  ·have he : s[i] = b := by
    have h2 : ((s[i].toNat : Int) == (b.toNat : Int)) = true := h2
    have h3 : (s[i].toNat : Int) = b.toNat := by simpa using h2
    exact UInt8.toNat_inj.1 (by omega)
   rw [if_pos he] at hcs
   conv => whnf
   refine ⟨⟨by omega, by show (st : Int) ≤ i; omega, by show (i : Int) ≤ s.length; omega⟩, ?_⟩
   conv => whnf
   refine ⟨⟨rfl, by show (rows.length + 1) * 16 ≤ _; omega, by show rows.length + 1 ≤ _; omega⟩, ?_⟩
   conv => whnf
   refine ⟨(i + 1, i + 1, rows ++ [(s.drop st).take (i - st)]), ⟨hlt, Nat.le_refl _, by show (rows ++ [_]).length = (s.take (i + 1)).count b; rw [List.length_append]; simp; omega⟩, by show s.length - (i + 1) < s.length - i; omega, ⟨rfl, rfl, ?_, ?_, ?_, trivial⟩, ⟨?_, trivial⟩⟩
   ·show AV.ref (.n 50) 0 (rows.length + 1) = .ref (.n 50) 0 (rows ++ [_]).length
    rw [List.length_append]; rfl
   ·show AV.d (.int .i64 (IntKind.i64.wrap ((i : Int) + 1))) = i64 ((i + 1 : Nat) : Int)
    rw [wrap_id (by omega) (by omega)]; rfl
   ·show AV.d (.int .i64 (IntKind.i64.wrap ((i : Int) + 1))) = i64 ((i + 1 : Nat) : Int)
    rw [wrap_id (by omega) (by omega)]; rfl
   ·show some (Ob.ds 9 1 ((rows.map encStr).take rows.length ++ [encStr ((s.drop st).take (i - st))])) = some (Ob.ds 9 1 ((rows ++ [(s.drop st).take (i - st)]).map encStr))
    rw [List.take_of_length_le (by simp), List.map_append]; rfl
  ·have he : ¬ s[i] = b := by
    intro e
    exact h2 (by show ((s[i].toNat : Int) == (b.toNat : Int)) = true; rw [e]; simp)
   rw [if_neg he] at hcs
   conv => whnf
   refine ⟨(i + 1, st, rows), ⟨hlt, by show st ≤ i + 1; omega, by show rows.length = (s.take (i + 1)).count b; omega⟩, by show s.length - (i + 1) < s.length - i; omega, ⟨rfl, rfl, rfl, rfl, ?_, trivial⟩, ⟨rfl, trivial⟩⟩
   show AV.d (.int .i64 (IntKind.i64.wrap ((i : Int) + 1))) = i64 ((i + 1 : Nat) : Int)
   rw [wrap_id (by omega) (by omega)]; rfl
 ·have hge : i = s.length := by
   have : ¬ i < s.length := by simpa using h
   omega
  subst hge
  rw [List.take_length] at hr
  conv => whnf
  refine ⟨⟨by omega, by show (st : Int) ≤ s.length; omega, by show (s.length : Int) ≤ s.length; omega⟩, ?_⟩
  conv => whnf
  refine ⟨⟨rfl, by show (rows.length + 1) * 16 ≤ _; omega, by show rows.length + 1 ≤ _; omega⟩, ?_⟩
  conv => whnf
  refine ⟨_, rfl, by simp; omega, fun c hc => ?_⟩
  have hc := List.mem_of_mem_take hc
  rcases List.mem_append.1 hc with h1 | h1
  ·obtain ⟨y, _, rfl⟩ := List.mem_map.1 (List.mem_of_mem_take h1); rfl
  ·have h1 := List.mem_of_mem_take h1
   simp at h1
   subst h1; rfl
theorem txt_le {xs : List Int} (h : Picks xs) : (txt xs).length ≤ 800 := by
 have := txt_len xs h.2 xs.length (Nat.le_refl _)
 rw [List.take_length] at this
 have := h.1
 omega
theorem l14Text_ok (f : FoundL) (hp : Picks f.picks) (hs : f.sign.length ≤ 100) : CallsTo EE 118 [agg (encFound f)] (· = sv (f.sign ++ [58] ++ txt f.picks)) := by
 have ht := txt_le hp
 refine callsTo_of_AW (fn := Tryz.f118) Tryz.func118 rfl (by kernel_rfl) rfl ?_
 conv => whnf
 refine ⟨by kernel_rfl, ?_⟩
 conv => whnf
 refine ⟨by show f.sign.length + 1 ≤ _; omega, ?_⟩
 conv => whnf
 refine ⟨_, l4List_ok f.picks hp, ?_⟩
 conv => whnf
 refine ⟨by show (f.sign ++ [58]).length + (txt f.picks).length ≤ _; rw [List.length_append]; simp; omega, ?_⟩
 conv => whnf
 try rfl
def textF (f : FoundL) : List UInt8 := f.sign ++ [58] ++ txt f.picks
def OkF (f : FoundL) : Prop := Picks f.picks ∧ f.sign.length ≤ 100 ∧ f.sign.count 58 = 0 ∧ f.sign.count 10 = 0 ∧ (textF f).length ≤ 600
open Classical in
noncomputable def textR (f : FoundL) : List UInt8 := if OkF f then textF f else []
theorem textR_no {f : FoundL} (h : ¬ OkF f) : AV.tup [sv [], bv false] = .tup [sv (textR f), bp (OkF f)] := by
 unfold textR
 rw [if_neg h, ← bpf h]
theorem textR_yes {f : FoundL} (h : OkF f) : AV.tup [sv (textF f), bv true] = .tup [sv (textR f), bp (OkF f)] := by
 unfold textR
 rw [if_pos h, ← bpt h]
theorem FoundTextS_ok (f : FoundL) (hx : f.picks.length ≤ 1048576) : CallsTo EE 71 [agg (encFound f)] (· = .tup [sv (textR f), bp (OkF f)]) := by
 refine callsTo_of_AW (fn := Tryz.f71) Tryz.func71 rfl (by kernel_rfl) rfl ?_
 conv => whnf
 refine ocase (l4Picks_ok f.picks hx) (fun h1 => ?_) (fun h1 => ?_)
 rotate_left
 ·conv => whnf
  exact textR_no fun h => h1 h.1
 conv => whnf
 refine kbi (fun h2 => ?_) (fun h2 => ?_)
 ·have h2 : (f.sign.length : Int) > 100 := of_decide_eq_true h2
  conv => whnf
  exact textR_no fun h => by have := h.2.1; omega
 have h2 : ¬ (f.sign.length : Int) > 100 := fun e => h2 (decide_eq_true e)
 conv => whnf
 refine ⟨_, l1Split_ok f.sign 58 (by omega), ?_⟩
 rintro r ⟨rows, rfl, hr, -⟩
 refine .inl ?_
 conv => whnf
 refine kbi (fun h3 => ?_) (fun h3 => ?_)
 ·have h3 : (rows.length : Int) > 1 := of_decide_eq_true h3
  conv => whnf
  exact textR_no fun h => by have := h.2.2.1; omega
 have h3 : ¬ (rows.length : Int) > 1 := fun e => h3 (decide_eq_true e)
 conv => whnf
 refine ⟨_, l1Split_ok f.sign 10 (by omega), ?_⟩
 rintro r ⟨rows2, rfl, hr2, -⟩
 refine .inl ?_
 conv => whnf
 refine kbi (fun h4 => ?_) (fun h4 => ?_)
 ·have h4 : (rows2.length : Int) > 1 := of_decide_eq_true h4
  conv => whnf
  exact textR_no fun h => by have := h.2.2.2.1; omega
 have h4 : ¬ (rows2.length : Int) > 1 := fun e => h4 (decide_eq_true e)
 have ht := l14Text_ok f h1 (by omega)
 conv => whnf
 refine ⟨_, ht, ?_⟩
 rintro r rfl
 conv => whnf
 refine kbi (fun h5 => ?_) (fun h5 => ?_)
 ·have h5 : ((textF f).length : Int) > 600 := of_decide_eq_true h5
  conv => whnf
  exact textR_no fun h => by have := h.2.2.2.2; omega
 have h5 : ¬ ((textF f).length : Int) > 600 := fun e => h5 (decide_eq_true e)
 conv => whnf
 refine ⟨_, ht, ?_⟩
 rintro r rfl
 conv => whnf
 exact textR_yes ⟨h1, by omega, by omega, by omega, by omega⟩
end Ai
end
section
set_option maxRecDepth 100000
namespace Ai
open Go Go.Proofs Cyc
def I64 (n : Int) : Prop := -9223372036854775808 ≤ n ∧ n ≤ 9223372036854775807
theorem itoa_len {n : Int} (h : I64 n) : (Lib.itoa n).length ≤ 20 := by
 unfold I64 at h
 unfold Lib.itoa
 split
 ·have := digits_len n.natAbs 19 (by omega) (by omega)
  simp; omega
 ·have := digits_len n.toNat 19 (by omega) (by omega)
  omega
theorem joinTail_len (r : List (List UInt8)) (k : Nat) (h : ∀ x ∈ r, x.length ≤ k) : (Lib.joinTail [44] r).length ≤ (k + 1) * r.length := by
 induction r with
 |nil => simp [Lib.joinTail]
 |cons x r ih =>
  have h1 := h x List.mem_cons_self
  have h2 := ih fun y hy => h y (List.mem_cons_of_mem _ hy)
  have e : Lib.joinTail [44] (x :: r) = ([44] ++ x) ++ Lib.joinTail [44] r := by simp [Lib.joinTail]
  rw [e, List.length_append, List.length_append, List.length_cons (a := x), Nat.mul_add]
  simp; omega
theorem join_len (r : List (List UInt8)) (k : Nat) (h : ∀ x ∈ r, x.length ≤ k) : (Lib.join r [44]).length ≤ (k + 1) * r.length := by
 cases r with
 |nil => simp [Lib.join_nil]
 |cons x r =>
  have h1 := h x List.mem_cons_self
  have h2 := joinTail_len r k fun y hy => h y (List.mem_cons_of_mem _ hy)
  rw [Lib.join_cons, List.length_append, List.length_cons, Nat.mul_add]
  omega
theorem itoa_txt (xs : List Int) (hp : ∀ x ∈ xs, InR x 0 999) : Lib.join (xs.map Lib.itoa) [44] = txt xs := by
 unfold txt
 congr 1
 refine List.map_congr_left fun n hn => ?_
 have := hp n hn
 unfold InR at this
 unfold Lib.itoa
 rw [if_neg (by omega)]
theorem joinNumbersA_ok (xs : List Int) (hl : xs.length ≤ 1048576) (hx : ∀ x ∈ xs, I64 x) : CallsTo EE 101 [sl (xs.map encInt)] (· = sv (Lib.join (xs.map Lib.itoa) [44])) := by
 have hjl := join_len (xs.map Lib.itoa) 20 fun x hx' => by obtain ⟨y, hy, rfl⟩ := List.mem_map.1 hx'; exact itoa_len (hx y hy)
 rw [List.length_map] at hjl
 refine callsTo_of_AW (fn := Tryz.f101) Tryz.func101 rfl (by kernel_rfl) rfl ?_
 conv => whnf
 refine aloop (fun k : Nat => [(0, sl (xs.map encInt)), (3, .ref (.n 6) 0 k), (7, sl (xs.map encInt)), (8, i64 (xs.map encInt).length), (9, i64 k)]) (fun k => [(.n 6, .ds 9 1 (((xs.take k).map Lib.itoa).map encStr))]) (fun k => xs.length - k) (fun k => k ≤ xs.length) 0
  Weak.refl ⟨rfl, rfl, rfl, rfl, rfl, trivial⟩ ⟨rfl, trivial⟩ (Nat.zero_le _) ?_
 intro k τ H hk
 have hk : k ≤ xs.length := hk
 conv => whnf
 refine kbi (fun h => ?_) (fun h => ?_)
 ·have hlt := lt_map h
  have hxk := hx _ (List.getElem_mem hlt)
  conv => whnf
  refine ⟨encInt xs[k], map_get encInt hlt rfl, ?_⟩
  conv => whnf
  refine ⟨_, Itoa_ok xs[k] hxk.1 hxk.2, ?_⟩
  rintro r rfl
  conv => whnf
  refine ⟨⟨rfl, by show (k + 1) * 16 ≤ _; omega, by show k + 1 ≤ _; omega⟩, ?_⟩
  conv => whnf
  refine ⟨k + 1, by show k + 1 ≤ xs.length; omega, by show xs.length - (k + 1) < xs.length - k; omega, ⟨rfl, rfl, rfl, rfl, next_i64 hlt (by omega), trivial⟩, ⟨?_, trivial⟩⟩
  show some (Ob.ds 9 1 ((((xs.take k).map Lib.itoa).map encStr).take k ++ [encStr (Lib.itoa xs[k])])) = some (Ob.ds 9 1 (((xs.take (k + 1)).map Lib.itoa).map encStr))
  rw [List.take_of_length_le (by simp; omega), List.take_succ_eq_append_getElem hlt, List.map_append, List.map_append]
  rfl
 ·have hge : xs.length ≤ k := by simpa using h
  have hkk : k = xs.length := by omega
  subst hkk
  conv => whnf
  have e : ((((xs.take xs.length).map Lib.itoa).map encStr).drop 0).take xs.length = (xs.map Lib.itoa).map encStr := by
   rw [List.drop_zero, List.take_length, List.take_of_length_le (by simp)]
  refine .inl ⟨_, Eq.mp (congrArg (fun x => CallsTo EE 139 [sl x, sv [44]] _) e.symm) (Join_ok (xs.map Lib.itoa) [44] (by simp; omega) (by omega)), ?_⟩
  rintro r rfl
  refine ⟨rfl, ?_⟩
  conv => whnf
  try rfl
def CAny : Prop := ∀ s : List UInt8, s.length ≤ 100 → CallsTo EE 119 [sv s, sv [58, 10]] (· = bp (¬ (s.count 58 = 0 ∧ s.count 10 = 0)))
theorem FoundTextI_ok (hC : CAny) (f : FoundL) (hx : f.picks.length ≤ 1048576) (hsl : f.sign.length ≤ 1048576) (hi : ∀ x ∈ f.picks, I64 x) : CallsTo EE 72 [agg (encFound f)] (· = .tup [sv (textR f), bp (OkF f)]) := by
 have hjl := join_len (f.picks.map Lib.itoa) 20 fun x hx' => by obtain ⟨y, hy, rfl⟩ := List.mem_map.1 hx'; exact itoa_len (hi y hy)
 rw [List.length_map] at hjl
 have hjn := joinNumbersA_ok f.picks hx hi
 have hT : Picks f.picks → f.sign ++ [58] ++ Lib.join (f.picks.map Lib.itoa) [44] = textF f := fun h => by rw [itoa_txt f.picks h.2]; rfl
 generalize Lib.join (f.picks.map Lib.itoa) [44] = T at hjl hjn hT
 refine callsTo_of_AW (fn := Tryz.f72) Tryz.func72 rfl (by kernel_rfl) rfl ?_
 conv => whnf
 refine ⟨by kernel_rfl, ?_⟩
 refine ⟨by show f.sign.length + 1 ≤ _; omega, ?_⟩
 conv => whnf
 refine ⟨_, hjn, ?_⟩
 conv => whnf
 refine ⟨by show (f.sign ++ [58]).length + T.length ≤ _; rw [List.length_append]; simp; omega, ?_⟩
 conv => whnf
 refine ocase (arePicks_ok f.picks 200 hx) (fun h1 => ?_) (fun h1 => ?_)
 rotate_left
 ·conv => whnf
  exact textR_no fun h => h1 h.1
 conv => whnf
 refine kbi (fun h2 => ?_) (fun h2 => ?_)
 ·have h2 : (f.sign.length : Int) > 100 := of_decide_eq_true h2
  conv => whnf
  exact textR_no fun h => by have := h.2.1; omega
 have h2 : ¬ (f.sign.length : Int) > 100 := fun e => h2 (decide_eq_true e)
 conv => whnf
 refine ocase (hC f.sign (by omega)) (fun h3 => ?_) (fun h3 => ?_)
 ·conv => whnf
  exact textR_no fun h => h3 ⟨h.2.2.1, h.2.2.2.1⟩
 have h3 := Classical.byContradiction fun e => h3 e
 conv => whnf
 rw [hT h1]
 refine kbi (fun h5 => ?_) (fun h5 => ?_)
 ·have h5 : ((textF f).length : Int) > 600 := of_decide_eq_true h5
  conv => whnf
  exact textR_no fun h => by have := h.2.2.2.2; omega
 have h5 : ¬ ((textF f).length : Int) > 600 := fun e => h5 (decide_eq_true e)
 conv => whnf
 exact textR_yes ⟨h1, by omega, h3.1, h3.2, by omega⟩
def GoF (p : ProgL) (f : FoundL) : Prop := OkF f ∧ p.goodS
theorem OkF.nn {f : FoundL} (h : OkF f) : ∀ i ∈ f.picks, 0 ≤ i := fun i hi => (h.1.2 i hi).1
theorem go_no {p : ProgL} {f : FoundL} (h : ¬ GoF p f) : AV.tup [bv false, bv false] = .tup [bp (GoF p f ∧ Still p f.picks f.sign), bp (GoF p f)] := by
 rw [← bpf h, ← bpf fun e : GoF p f ∧ Still p f.picks f.sign => h e.1]
theorem go_yes {p : ProgL} {f : FoundL} (h : GoF p f) (b : Bool) (hb : b = true ↔ Still p f.picks f.sign) : AV.tup [bv b, bv true] = .tup [bp (GoF p f ∧ Still p f.picks f.sign), bp (GoF p f)] := by
 rw [← bpt h]
 cases b with
 |true => rw [← bpt ⟨h, hb.1 rfl⟩]
 |false => rw [← bpf fun e : GoF p f ∧ Still p f.picks f.sign => by simpa using hb.2 e.2]
theorem GoesS_ok (p : ProgL) (hp : p.wf) (hs : p.rs.length ≤ 1048576 ∧ ∀ x ∈ p.rs, x.length ≤ 1048576) (hv : p.flt) (f : FoundL) (hx : f.picks.length ≤ 1048576) :
  CallsTo EE 34 [agg (encProg p), agg (encFound f)] (· = .tup [bp (GoF p f ∧ Still p f.picks f.sign), bp (GoF p f)]) := by
 have hT := FoundTextS_ok f hx
 refine callsTo_of_AW (fn := Tryz.f34) Tryz.func34 rfl (by kernel_rfl) rfl ?_
 conv => whnf
 refine ⟨_, hT, ?_⟩
 rintro r rfl
 by_cases hO : OkF f
 rotate_left
 ·rw [← bpf hO]
  conv => whnf
  exact go_no fun h => hO h.1
 rw [← bpt hO]
 conv => whnf
 refine ocase (GoodProgS_ok p hs hv) (fun hg => ?_) (fun hg => ?_)
 rotate_left
 ·conv => whnf
  exact go_no fun h => hg h.2
 conv => whnf
 refine ⟨by kernel_rfl, ?_⟩
 conv => whnf
 refine ⟨_, l4Run_of p hp hg f.picks 200 hO.nn hx (by unfold InR; omega), ?_⟩
 conv => whnf
 refine ⟨_, l4Sign_ok p hp hg hv 200 _ (runOf_end hg hv f.picks 200 hO.nn (by omega)) (by omega), ?_⟩
 conv => whnf
 refine ⟨fun h => ?_, fun h => ?_⟩
 ·conv => whnf
  exact go_yes ⟨hO, hg⟩ true ⟨fun _ => eq_of_beq h, fun _ => rfl⟩
 ·conv => whnf
  exact go_yes ⟨hO, hg⟩ false ⟨fun e => (by cases e), fun e => by rw [Still] at e; simp [e] at h⟩
theorem GoesI_ok (hC : CAny) (p : ProgL) (hp : p.wf) (hs : p.rs.length ≤ 1048576 ∧ ∀ x ∈ p.rs, x.length ≤ 1048576) (hv : p.flt) (f : FoundL) (hx : f.picks.length ≤ 1048576) (hsl : f.sign.length ≤ 1048576) (hi : ∀ x ∈ f.picks, I64 x) :
  CallsTo EE 36 [agg (encProg p), agg (encFound f)] (· = .tup [bp (GoF p f ∧ Still p f.picks f.sign), bp (GoF p f)]) := by
 have hT := FoundTextI_ok hC f hx hsl hi
 refine callsTo_of_AW (fn := Tryz.f36) Tryz.func36 rfl (by kernel_rfl) rfl ?_
 conv => whnf
 refine ⟨_, hT, ?_⟩
 rintro r rfl
 by_cases hO : OkF f
 rotate_left
 ·rw [← bpf hO]
  conv => whnf
  exact go_no fun h => hO h.1
 rw [← bpt hO]
 conv => whnf
 refine ocase (GoodProgI_ok p hs) (fun hg => ?_) (fun hg => ?_)
 rotate_left
 ·conv => whnf
  exact go_no fun h => hg ((prog_same p).1 h.2)
 have hg : p.goodS := (prog_same p).2 hg
 conv => whnf
 refine ocase (still_ok p hp hg hv f.picks f.sign hO.nn hx) (fun h => ?_) (fun h => ?_)
 ·conv => whnf
  exact go_yes ⟨hO, hg⟩ true ⟨fun _ => h, fun _ => rfl⟩
 ·conv => whnf
  exact go_yes ⟨hO, hg⟩ false ⟨fun e => (by cases e), fun e => absurd e h⟩
end Ai
end
section
set_option maxRecDepth 100000
namespace Ai
open Go Go.Proofs Go.Deep
section
variable {H : Type} {enc' : TypeId × Value → H} {w : World} {sp : Nat → Bool} {held : Bool}
theorem rd_i64 {n : Nat} {cs : List Value} {x : DataW H × List MemPlace} (h : DataW.trod enc' Tryz.prog w 0 sp held n 3 cs = some x) : ∃ k : Int, I64 k ∧ Fits w [di k] cs := by
 obtain ⟨k, rfl, _, hw⟩ := DataW.trod_int Tryz.underlying3 h
 refine ⟨k, ?_, rfl, fun i d u hd hu => ?_⟩
 ·have h1 : IntKind.i64.min ≤ k ∧ k ≤ IntKind.i64.max := by simpa [Lit.wf] using hw
  exact h1
 match i, hd, hu with
 | 0, hd, hu => simp at hd hu; subst hd; subst hu; exact .int _ _
 |i + 1, hd, hu => simp at hd
theorem rd_ints64 {n : Nat} {cs : List Value} {x : DataW H × List MemPlace} (h : DataW.trod enc' Tryz.prog w 0 sp held n 25 cs = some x) : ∃ l : List Int, (l.length ≤ 9223372036854775807 ∧ ∀ x ∈ l, I64 x) ∧ Fits w [.sl (l.map encInt)] cs := by
 obtain ⟨xs, hw, hl, hf⟩ := rd_slice (α := Int) Tryz.underlying25 1 c3 (by omega) encInt I64 (fun n cs x h => rd_i64 h) h
 exact ⟨xs, ⟨hl, hw⟩, hf⟩
theorem rd_found {n : Nat} {cs : List Value} {x : DataW H × List MemPlace} (h : DataW.trod enc' Tryz.prog w 0 sp held n 50 cs = some x) : ∃ f : FoundL, (f.wf ∧ ∀ x ∈ f.picks, I64 x) ∧ Fits w (encFound f) cs := by
 obtain ⟨xs, m, _, _, hcl, hxl, hf⟩ := DataW.trod_struct Tryz.underlying50 h
 have c9 : Tryz.prog.cellsOf 9 = 1 := by kernel_rfl
 have c25 : Tryz.prog.cellsOf 25 = 1 := by kernel_rfl
 have c50 : Tryz.prog.cellsOf 50 = 2 := by kernel_rfl
 have hxl2 : xs.length = 2 := hxl
 have g0 : DataW.trod enc' Tryz.prog w 0 sp held m 9 ((cs.drop 0).take (Tryz.prog.cellsOf 9)) = xs[0]? := hf 0 _ rfl
 have g1 : DataW.trod enc' Tryz.prog w 0 sp held m 25 ((cs.drop 1).take (Tryz.prog.cellsOf 25)) = xs[1]? := hf 1 _ rfl
 simp only [c9, c25] at g0 g1
 rw [List.getElem?_eq_getElem (by omega)] at g0 g1
 obtain ⟨s, hs, f0⟩ := rd_str g0
 obtain ⟨l, ⟨hl, hi⟩, f1⟩ := rd_ints64 g1
 exact ⟨⟨s, l⟩, ⟨⟨hs, hl⟩, hi⟩, fits_cons (k := 0) f0 (fits_cons (k := 1) f1 (fits_nil (by omega)))⟩
end
end Ai
end
section
set_option maxRecDepth 100000
namespace Ai
open Go Go.Proofs Cyc
theorem lawGoes0 (hC : CAny) (p : ProgL) (hp : p.wf) (hv : p.flt) (f : FoundL) (hf : f.wf) (hi : ∀ x ∈ f.picks, I64 x) : CallsTo EE 10 [agg (encProg p), agg (encFound f)] (· = bv true) := by
 refine callsTo_of_AW (fn := Tryz.f10) Tryz.func10 rfl (by kernel_rfl) rfl ?_
 conv => whnf
 refine ⟨_, szProg_ok p 1048576 (by omega) (by omega) hp, ?_⟩
 rintro r ⟨n, rfl, hn1, hn2, hn3⟩
 conv => whnf
 refine kbi (fun _ => ?_) (fun h => ?_)
 ·conv => whnf
  try rfl
 have h0 : 0 ≤ n := by simp at h; omega
 have hsz : p.size ≤ 1048576 := by have := hn3 h0; omega
 have hs := size_le List.length p.rs 1048576 hsz
 conv => whnf
 refine ⟨_, szFound_ok f n h0 (by omega) hf, ?_⟩
 rintro r ⟨n2, rfl, hm1, hm2, hm3⟩
 conv => whnf
 refine kbi (fun _ => ?_) (fun h => ?_)
 ·conv => whnf
  try rfl
 have hfs : f.size ≤ 1048576 := by
  have h : ¬ n2 < 0 := fun e => h (decide_eq_true e)
  have := hm3 (by omega)
  omega
 have hfl : f.sign.length + f.picks.length ≤ 1048576 := hfs
 have cS := GoesS_ok p hp hs hv f (by omega)
 have cI := GoesI_ok hC p hp hs hv f (by omega) (by omega) hi
 simp only [bp] at cS cI
 generalize pb (GoF p f ∧ Still p f.picks f.sign) = a at cS cI
 generalize pb (GoF p f) = b at cS cI
 conv => whnf
 refine .inr (.inl ⟨10, [], ?_⟩)
 conv => whnf
 refine ⟨_, toProg_ok p hs, ?_⟩
 conv => whnf
 refine ⟨_, toFound_ok f (by omega), ?_⟩
 conv => whnf
 refine ⟨_, cS, ?_⟩
 conv => whnf
 refine ⟨by kernel_rfl, ?_⟩
 conv => whnf
 refine ⟨_, toProg_ok p hs, ?_⟩
 rintro r rfl
 conv => whnf
 refine ⟨_, toFound_ok f (by omega), ?_⟩
 rintro r rfl
 conv => whnf
 refine ⟨_, cI, ?_⟩
 rintro r rfl
 conv => whnf
 refine kbi (fun h => absurd h (by simp)) (fun _ => ?_)
 conv => whnf
 refine kbi (fun h => absurd h (by simp)) (fun _ => ?_)
 conv => whnf
 refine ⟨by kernel_rfl, ?_⟩
 conv => whnf
 refine ⟨_, toProg_ok p hs, ?_⟩
 conv => whnf
 refine ⟨_, eqProg_ok p hs, ?_⟩
 conv => whnf
 refine ⟨by kernel_rfl, ?_⟩
 conv => whnf
 refine ⟨_, toFound_ok f (by omega), ?_⟩
 conv => whnf
 refine ⟨_, eqFound_ok f (by omega), ?_⟩
 conv => whnf
 try rfl
end Ai
end
section
namespace Go.Proofs
open Go.Shelf
def Tryz.laysAny_ren : Go.Shelf.Ren := ⟨fun | 153 => 154 | 152 => 187 | 226 => 188 | 227 => 189 | 228 => 190 | 137 => 210 | 119 => 211 | 224 => 212 | 225 => 213 | 217 => 224 | 266 => 230 | n => n, fun | 9 => 9 | 3 => 3 | 4 => 4 | 5 => 5 | 21 => 21 | 117 => 220 | 116 => 219 | 0 => 0 | 46 => 236 | 124 => 237 | n => n, fun | n => n⟩
theorem Tryz.laysAny : Go.Proofs.Lays.n153 Tryz.prog Tryz.laysAny_ren := {
 mixed := by kernel_rfl
 f119 := Tryz.func211.trans (congrArg some (by kernel_rfl))
 f137 := Tryz.func210.trans (congrArg some (by kernel_rfl))
 f152 := Tryz.func187.trans (congrArg some (by kernel_rfl))
 f153 := Tryz.func154.trans (congrArg some (by kernel_rfl))
 f217 := Tryz.func224.trans (congrArg some (by kernel_rfl))
 f224 := Tryz.func212.trans (congrArg some (by kernel_rfl))
 f225 := Tryz.func213.trans (congrArg some (by kernel_rfl))
 f226 := Tryz.func188.trans (congrArg some (by kernel_rfl))
 f227 := Tryz.func189.trans (congrArg some (by kernel_rfl))
 f228 := Tryz.func190.trans (congrArg some (by kernel_rfl))
 f266 := Tryz.func230.trans (congrArg some (by kernel_rfl))
 t0 := Tryz.underlying0
 a0 := Tryz.isAgg0
 z0 := Tryz.sizeOf0
 v0 := Tryz.zeroValue0
 t3 := Tryz.underlying3
 a3 := Tryz.isAgg3
 z3 := Tryz.sizeOf3
 v3 := Tryz.zeroValue3
 t4 := Tryz.underlying4
 a4 := Tryz.isAgg4
 z4 := Tryz.sizeOf4
 v4 := Tryz.zeroValue4
 t5 := Tryz.underlying5
 a5 := Tryz.isAgg5
 z5 := Tryz.sizeOf5
 v5 := Tryz.zeroValue5
 t9 := Tryz.underlying9
 a9 := Tryz.isAgg9
 z9 := Tryz.sizeOf9
 v9 := Tryz.zeroValue9
 t21 := Tryz.underlying21
 a21 := Tryz.isAgg21
 z21 := Tryz.sizeOf21
 v21 := Tryz.zeroValue21
 t46 := Tryz.underlying236
 a46 := Tryz.isAgg236
 z46 := Tryz.sizeOf236
 v46 := Tryz.zeroValue236
 t116 := Tryz.underlying219
 a116 := Tryz.isAgg219
 z116 := Tryz.sizeOf219
 t117 := Tryz.underlying220
 a117 := Tryz.isAgg220
 z117 := Tryz.sizeOf220
 v117 := Tryz.zeroValue220
 t124 := Tryz.underlying237
 a124 := Tryz.isAgg237
 z124 := Tryz.sizeOf237
 v124 := Tryz.zeroValue237 }
theorem Tryz.setAny : (Tryz.prog.info? (Tryz.laysAny_ren.t 116)).map (fun i => (i.zero, i.size)) = some (some (.agg (Array.replicate 256 (.bool false))), 256) := by kernel_rfl
end Go.Proofs
end
section
set_option maxRecDepth 100000
namespace Ai
open Go Go.Proofs Go.Shelf
abbrev i32 (n : Int) : AV := .d (.int .i32 n)
theorem ValidRune_ok (r : Int) (h : Utf8.valid r = true) : CallsTo EE 211 [i32 r] (· = bv true) := by
 rw [validRune_eq] at h
 have h := of_decide_eq_true h
 refine callsTo_of_AW (fn := Tryz.f211) Tryz.func211 rfl (by kernel_rfl) rfl ?_
 conv => whnf
 refine kbi (fun _ => ?_) (fun a => absurd (decide_eq_true (show (0 : Int) ≤ r by omega)) a)
 conv => whnf
 refine kbi (fun _ => ?_) (fun a => ?_)
 ·conv => whnf
  try rfl
 have a : ¬ r < 55296 := fun e => a (decide_eq_true e)
 conv => whnf
 refine kbi (fun _ => ?_) (fun a => absurd (decide_eq_true (show (57343 : Int) < r by omega)) a)
 conv => whnf
 refine kbi (fun _ => ?_) (fun a => absurd (decide_eq_true (show r ≤ 1114111 by omega)) a)
 conv => whnf
 try rfl
theorem ent210 : ∀ args w, (callFunc 210 args).run Tryz.prog w = .ok (.enter 210 args) w := enters_of Tryz.func210 (by kernel_rfl) rfl
theorem IndexByte0_ok (c : Int) : CallsTo EE 210 [sv [], .d (.int .u8 c)] (· = i64 (-1)) := by
 intro w A vs hI hA
 obtain ⟨v, u, rfl, hv, hu⟩ := two_args hA
 cases hv with
 |d _ _ hd =>
  have := strInv hd
  subst this
  cases hu with
  |d _ _ hd2 =>
   have := intInv hd2
   subst this
   unfold Invokes
   rw [show Sem.run EE.P (callFunc 210 _) w = _ from ent210 _ w]
   refine Calls.mono (show Calls Tryz.prog 210 _ _ _ from Any.strings_IndexByte (ρ := Tryz.laysAny_ren) { Tryz.laysAny with } ⟨#[]⟩ c w) ?_
   rintro e w' ⟨rfl, rfl⟩
   exact ⟨_, rfl, _, rfl, RowKit.Below.refl _ _, .d _ _ (.int _ _)⟩
theorem IndexRune_ok (r : Int) (h : Utf8.valid r = true) (h0 : 128 ≤ r) (hE : r ≠ 65533) : CallsTo EE 187 [sv [58, 10], i32 r] (· = i64 (-1)) := by
 obtain ⟨g1, g2, g3⟩ := encode_facts r h h0
 have hvr := ValidRune_ok r h
 refine callsTo_of_AW (fn := Tryz.f187) Tryz.func187 rfl (by kernel_rfl) rfl ?_
 conv => whnf
 refine kbi (fun _ => ?_) (fun a => absurd (decide_eq_true (show (0 : Int) ≤ r by omega)) a)
 conv => whnf
 refine kbi (fun a => absurd (of_decide_eq_true a) (by show ¬ r < 128; omega)) (fun _ => ?_)
 conv => whnf
 refine kbi (fun a => absurd (by simpa using a) hE) (fun _ => ?_)
 conv => whnf
 refine ⟨_, hvr, ?_⟩
 rintro r' rfl
 have hlen : (Utf8.encode r).data.toList.length = (Utf8.encode r).size := rfl
 have hlast : ∀ x : UInt8, (Utf8.encode r).data.toList[(Utf8.encode r).size - 1]? = some x → 128 ≤ x.toNat := by
  intro x hx
  have := g3 (by omega)
  have e : (Utf8.encode r).data.toList[(Utf8.encode r).size - 1]? = some ((Utf8.encode r)[(Utf8.encode r).size - 1]'(by omega)) := by
   rw [List.getElem?_eq_getElem (by rw [hlen]; omega)]; rfl
  rw [e] at hx
  injection hx with hx
  rw [← hx]; exact this
 generalize (Utf8.encode r).size = n at g1 g2 hlen hlast
 conv => whnf
 generalize (Utf8.encode r).data.toList = pat at hlen hlast ⊢
 have hw : IntKind.i64.wrap ((pat.length : Int) - 1) = ((n - 1 : Nat) : Int) := by rw [hlen, wrap_id (by omega) (by omega)]; omega
 refine aloop (fun _ : Unit => [(0, sv [58, 10]), (1, i32 r), (7, sv pat), (8, i64 ((n - 1 : Nat) : Int)), (9, i64 ((n - 1 : Nat) : Int)), (10, i64 0)]) (fun _ => []) (fun _ => 0) (fun _ => True) ()
  Weak.refl ⟨rfl, rfl, rfl, congrArg i64 hw, congrArg i64 hw, rfl, trivial⟩ trivial trivial ?_
 intro _ τ H _
 conv => whnf
 refine kbi (fun a => ?_) (fun a => ?_)
 rotate_left
 ·conv => whnf
  try rfl
 have hn : n = 2 := by
  have : ((n - 1 : Nat) : Int) < 2 := of_decide_eq_true a
  omega
 subst hn
 obtain ⟨p0, p1, rfl⟩ : ∃ p0 p1, pat = [p0, p1] := by
  match pat, hlen with
  | [p0, p1], _ => exact ⟨p0, p1, rfl⟩
 have hx := hlast p1 rfl
 conv => whnf
 refine ⟨by kernel_rfl, ?_⟩
 conv => whnf
 refine ⟨10, ⟨by omega, rfl⟩, ?_⟩
 conv => whnf
 refine ⟨p1, ⟨by omega, rfl⟩, ?_⟩
 conv => whnf
 refine kbi (fun _ => ?_) (fun a => absurd (by show ((10 : Int) != (p1.toNat : Int)) = true; simp; omega) a)
 conv => whnf
 refine ⟨by kernel_rfl, ?_⟩
 conv => whnf
 refine ⟨⟨by show (0 : Int) ≤ 2; omega, by show (2 : Int) ≤ 2; omega, by show (2 : Int) ≤ 2; omega⟩, ?_⟩
 conv => whnf
 refine ⟨p1, ⟨by omega, rfl⟩, ?_⟩
 conv => whnf
 refine ⟨_, IndexByte0_ok _, ?_⟩
 conv => whnf
 refine kbi (fun _ => ?_) (fun a => absurd rfl a)
 conv => whnf
 try rfl
theorem ValidRune_no (r : Int) (h : Utf8.valid r = false) (h0 : 128 ≤ r) : CallsTo EE 211 [i32 r] (· = bv false) := by
 rw [validRune_eq] at h
 have h := of_decide_eq_false h
 refine callsTo_of_AW (fn := Tryz.f211) Tryz.func211 rfl (by kernel_rfl) rfl ?_
 conv => whnf
 refine kbi (fun _ => ?_) (fun a => absurd (decide_eq_true (show (0 : Int) ≤ r by omega)) a)
 conv => whnf
 refine kbi (fun a => absurd (of_decide_eq_true a) (by show ¬ r < 55296; omega)) (fun _ => ?_)
 conv => whnf
 refine kbi (fun a => ?_) (fun _ => ?_)
 ·have a : (57343 : Int) < r := of_decide_eq_true a
  conv => whnf
  refine kbi (fun b => absurd (of_decide_eq_true b) (by show ¬ r ≤ 1114111; omega)) (fun _ => ?_)
  conv => whnf
  try rfl
 ·conv => whnf
  try rfl
theorem IndexRune_bad (r : Int) (h : Utf8.valid r = false) (h0 : 128 ≤ r) (hE : r ≠ 65533) : CallsTo EE 187 [sv [58, 10], i32 r] (· = i64 (-1)) := by
 have hvr := ValidRune_no r h h0
 refine callsTo_of_AW (fn := Tryz.f187) Tryz.func187 rfl (by kernel_rfl) rfl ?_
 conv => whnf
 refine kbi (fun _ => ?_) (fun a => absurd (decide_eq_true (show (0 : Int) ≤ r by omega)) a)
 conv => whnf
 refine kbi (fun a => absurd (of_decide_eq_true a) (by show ¬ r < 128; omega)) (fun _ => ?_)
 conv => whnf
 refine kbi (fun a => absurd (by simpa using a) hE) (fun _ => ?_)
 conv => whnf
 refine ⟨_, hvr, ?_⟩
 rintro r' rfl
 conv => whnf
 try rfl
end Ai
end
section
namespace Go.Proofs
open Go.Shelf Go.RowKit Go.Lib
variable {P : Program} {ρ : Ren}
def colNl : ByteArray := ⟨#[58, 10]⟩
theorem get_bang (s : ByteArray) (j : Nat) (h : j < s.size) : s.get! j = s[j]'h := get_at s j h
theorem decode_skip (s : ByteArray) (i : Nat) (h : i < s.size) (ha : 128 ≤ (s.get! i).toNat) : i + (Utf8.decode s i).2 ≤ s.size ∧ ∀ k, k < (Utf8.decode s i).2 → 128 ≤ (s.get! (i + k)).toNat := by
 have hn : ¬ (s.get! (i + 0)).toNat < 128 := by rw [Nat.add_zero]; omega
 have one : i + 1 ≤ s.size ∧ ∀ k, k < 1 → 128 ≤ (s.get! (i + k)).toNat := ⟨h, fun k hk => by
  have : k = 0 := by omega
  subst this; exact ha⟩
 simp only [Utf8.decode, hn, if_false]
 split
 ·rename_i hc
  simp only [Bool.and_eq_true, decide_eq_true_eq, beq_iff_eq] at hc
  split
  ·refine ⟨by show i + 2 ≤ _; omega, fun k hk => ?_⟩
   have hk : k < 2 := hk
   rcases (show k = 0 ∨ k = 1 by omega) with rfl | rfl
   ·exact ha
   ·have := hc.2.2; omega
  ·exact one
 split
 ·rename_i hc
  simp only [Bool.and_eq_true, decide_eq_true_eq, beq_iff_eq] at hc
  split
  ·refine ⟨by show i + 3 ≤ _; omega, fun k hk => ?_⟩
   have hk : k < 3 := hk
   rcases (show k = 0 ∨ k = 1 ∨ k = 2 by omega) with rfl | rfl | rfl
   ·exact ha
   ·have := hc.1.2.2; omega
   ·have := hc.2.2; omega
  ·exact one
 split
 ·rename_i hc
  simp only [Bool.and_eq_true, decide_eq_true_eq, beq_iff_eq] at hc
  split
  ·refine ⟨by show i + 4 ≤ _; omega, fun k hk => ?_⟩
   have hk : k < 4 := hk
   rcases (show k = 0 ∨ k = 1 ∨ k = 2 ∨ k = 3 by omega) with rfl | rfl | rfl | rfl
   ·exact ha
   ·have := hc.1.1.2.2; omega
   ·have := hc.1.2.2; omega
   ·have := hc.2.2; omega
  ·exact one
 ·exact one
theorem decode_step (s : ByteArray) (i : Nat) (h : i < s.size) : 0 ≤ ((Utf8.decode s i).1 : Int) ∧ ((Utf8.decode s i).1 : Int) ≤ 2147483647 ∧ 1 ≤ (Utf8.decode s i).2 ∧ i + (Utf8.decode s i).2 ≤ s.size ∧
  (((Utf8.decode s i).1 = 58 ∨ (Utf8.decode s i).1 = 10) ↔ ((s.get! i).toNat = 58 ∨ (s.get! i).toNat = 10)) ∧
  (¬ ((Utf8.decode s i).1 = 58 ∨ (Utf8.decode s i).1 = 10) → ∀ k, k < (Utf8.decode s i).2 → ¬ ((s.get! (i + k)).toNat = 58 ∨ (s.get! (i + k)).toNat = 10)) := by
 have hle := decode_le s i
 have hg := get_bang s i h
 by_cases ha : (s[i]'h).toNat < 128
 ·rw [decode_ascii s i h ha, hg]
  refine ⟨by omega, by show ((s[i]'h).toNat : Int) ≤ _; omega, by omega, h, Iff.rfl, fun hn k hk => ?_⟩
  have : k = 0 := by have hk : k < 1 := hk; omega
  subst this
  rw [Nat.add_zero, hg]; exact hn
 ·obtain ⟨h1, h2⟩ := decode_high s i h (by omega)
  obtain ⟨h3, h4⟩ := decode_skip s i h (by rw [hg]; omega)
  have := h4 0 (by omega)
  rw [Nat.add_zero] at this
  refine ⟨by omega, by omega, h2, h3, ⟨fun e => by omega, fun e => by omega⟩, fun _ k hk => ?_⟩
  have := h4 k hk
  omega
set_option maxHeartbeats 3000000 in
set_option maxRecDepth 1000000 in
theorem indexRune_err (L : Lays.n152 P ρ) (w : World) :
  Calls P (ρ.f 152) #[.string colNl, .int .i32 65533] w fun e w' => e = .returned (.int .i64 (-1)) ∧ Below w.heap.size w w' := by
 have t3 := L.t3; have a3 := L.a3; have z3 := L.z3; have v3 := L.v3
 have t4 := L.t4; have a4 := L.a4; have z4 := L.z4; have v4 := L.v4
 have t5 := L.t5; have a5 := L.a5; have z5 := L.z5; have v5 := L.v5
 have t9 := L.t9; have a9 := L.a9; have z9 := L.z9; have v9 := L.v9
 have t21 := L.t21; have a21 := L.a21; have z21 := L.z21; have v21 := L.v21
 go_enter L.f152, Body.n152_ntmps ρ
 go_wp2
 go_loopg [5, 6] 2 (fun g _ _ wx => ∃ i : Nat, i + g = 2 ∧ wx = w.iter colNl i)
 case atStart => exact ⟨0, rfl, rfl⟩
 case round =>
  obtain ⟨i, hig, rfl⟩ := hrel
  cases gk with
  |zero =>
   obtain rfl : i = 2 := by omega
   have hnx := fun ty => run_next_end (P := P) w colNl 2 ty (by show ¬ (2 < 2); omega)
   go_wp2
   go_ret
   exact ⟨rfl, (Below.refl _ _).alloc (Nat.le_refl _) _⟩
  |succ g =>
   have hi : i < colNl.size := by show i < 2; omega
   have hx : (colNl[i]'hi).toNat = 58 ∨ (colNl[i]'hi).toNat = 10 := by
    rcases (show i = 0 ∨ i = 1 by omega) with rfl | rfl
    ·exact .inl rfl
    ·exact .inr rfl
   have hnx := fun ty => run_next_ascii (P := P) w colNl i ty hi (by omega)
   generalize (colNl[i]'hi).toNat = x at hnx hx
   have hne : ((x : Int) == 65533) = false := beq_eq_false_iff_ne.2 (by omega)
   go_wp2
   go_roundg g
   case measure => omega
   case rel => exact ⟨i + 1, by omega, rfl⟩
def NoSign (s : ByteArray) (i : Nat) : Prop := ∀ j, j < i → ¬ ((s.get! j).toNat = 58 ∨ (s.get! j).toNat = 10)
set_option maxHeartbeats 3000000 in
set_option maxRecDepth 1000000 in
theorem indexAny_short (L : Lays.n153 P ρ) (w : World) (hR : ∀ (r : Int) (w1 : World), Below w.heap.size w w1 → 0 ≤ r → r ≤ 2147483647 → Calls P (ρ.f 152) #[.string colNl, .int .i32 r] w1 fun e w' => ∃ k : Int, e = .returned (.int .i64 k) ∧ (0 ≤ k ↔ (r = 58 ∨ r = 10)) ∧ Below w1.heap.size w1 w')
  (s : ByteArray) (h8 : s.size ≤ 8) :
  Calls P (ρ.f 153) #[.string s, .string colNl] w fun e w' => ∃ k : Int, e = .returned (.int .i64 k) ∧ (0 ≤ k ↔ ¬ NoSign s s.size) ∧ Below w.heap.size w w' := by
 have HR : Aside (∀ (r : Int) (w1 : World), Below w.heap.size w w1 → 0 ≤ r → r ≤ 2147483647 → Calls P (ρ.f 152) #[.string colNl, .int .i32 r] w1 fun e w' => ∃ k : Int, e = .returned (.int .i64 k) ∧ (0 ≤ k ↔ (r = 58 ∨ r = 10)) ∧ Below w1.heap.size w1 w') := hR
 clear hR
 have hemp : colNl.toList.isEmpty = false := by rw [Lib.toList_data]; rfl
 have hn1 : ((colNl.size : Int) == 1) = false := rfl
 have h8z : decide ((8 : Int) < (s.size : Int)) = false := decide_eq_false (by omega)
 have t3 := L.t3; have a3 := L.a3; have z3 := L.z3; have v3 := L.v3
 have t4 := L.t4; have a4 := L.a4; have z4 := L.z4; have v4 := L.v4
 have t5 := L.t5; have a5 := L.a5; have z5 := L.z5; have v5 := L.v5
 have t9 := L.t9; have a9 := L.a9; have z9 := L.z9; have v9 := L.v9
 have t21 := L.t21; have a21 := L.a21; have z21 := L.z21; have v21 := L.v21
 have e152 : ∀ args w, (callFunc (ρ.f 152) args).run P w = .ok (.enter (ρ.f 152) args) w := enters_of L.f152 (by kernel_rfl) rfl
 have e226 : ∀ args w, (callFunc (ρ.f 226) args).run P w = .ok (.enter (ρ.f 226) args) w := enters_of L.f226 (by kernel_rfl) rfl
 go_enter L.f153, Body.n153_ntmps ρ
 go_wp2_with (go_at_fn (ρ.f 226); refine (Any.strings_shouldUseASCIISet { L with } _ _).mono ?_; rintro e w' ⟨rfl, hw⟩; rw [hw, h8z])
 go_loopg [9, 10] s.size (fun g _ _ wx => ∃ i : Nat, i + g = s.size ∧ wx.heap[w.heap.size]? = some (.stringIter s i) ∧ Below w.heap.size w wx ∧ NoSign s i)
 case atStart => exact ⟨0, by omega, World.iter_heap _ _ _, (Below.refl _ _).alloc (Nat.le_refl _) _, fun j hj => by omega⟩
 case round =>
  obtain ⟨i, hig, hit, hbel, hno⟩ := hrel
  have HN : Aside (NoSign s i) := hno
  have HB : Aside (Below w.heap.size w _) := hbel
  clear hno hbel
  cases gk with
  |zero =>
   obtain rfl : i = s.size := by omega
   have hnx := fun ty => run_next_end_at (P := P) _ w.heap.size s s.size ty hit (by omega)
   go_wp2
   go_ret
   exact ⟨_, rfl, ⟨fun h => absurd h (by omega), fun h => absurd HN.out h⟩, HB.out⟩
  |succ g =>
   have hi : i < s.size := by omega
   have hnx := fun ty => run_next_any_at (P := P) _ w.heap.size s i ty hit hi
   have hds := decode_step s i hi
   have hit2 := fun pos' => iterAt_heap _ w.heap.size s i pos' hit
   have hb2 := fun pos' => below_iterAt HB.out (Nat.le_refl _) s pos'
   generalize Utf8.decode s i = q at hnx hds
   obtain ⟨r, n⟩ := q
   obtain ⟨d1, d2, d3, d4, d5, d6⟩ := hds
   have HK : Aside (∀ (w' : World), Below (wr.iterAt w.heap.size s (i + n)).heap.size (wr.iterAt w.heap.size s (i + n)) w' → w'.heap[w.heap.size]? = some (.stringIter s (i + n)) ∧ Below w.heap.size w w') := by
    intro w' hbw
    have hlt := (Array.getElem?_eq_some_iff.1 (hit2 (i + n))).1
    exact ⟨(hbw.block _ hlt).trans (hit2 (i + n)), (hb2 (i + n)).trans (hbw.mono (hb2 (i + n)).size)⟩
   go_wp2_with (go_at_fn (ρ.f 152); refine (HR.out _ _ (hb2 _) d1 d2).mono ?_; rintro e w' ⟨k, rfl, hk, hbw⟩)
   ·rename_i hh
    go_ret
    exact ⟨_, rfl, ⟨fun _ hns => hns i hi (d5.1 (by omega)), fun _ => by omega⟩, (HK.out _ hbw).2⟩
   ·rename_i hh
    go_roundg (s.size - (i + n))
    case measure => omega
    case rel =>
     refine ⟨i + n, by omega, (HK.out _ hbw).1, (HK.out _ hbw).2, fun j hj => ?_⟩
     by_cases hji : j < i
     ·exact HN.out j hji
     ·have := d6 (by omega) (j - i) (by omega)
      rwa [show i + (j - i) = j by omega] at this
end Go.Proofs
end
section
set_option maxRecDepth 100000
namespace Ai
open Go Go.Proofs Go.Shelf
theorem ent187 : ∀ args w, (callFunc 187 args).run Tryz.prog w = .ok (.enter 187 args) w := enters_of Tryz.func187 (by kernel_rfl) rfl
theorem ent154 : ∀ args w, (callFunc 154 args).run Tryz.prog w = .ok (.enter 154 args) w := enters_of Tryz.func154 (by kernel_rfl) rfl
theorem rune_calls {r : Int} {w : World} (hI : EE.I w) (h : CallsTo EE 187 [sv [58, 10], i32 r] (· = i64 (-1))) : Calls Tryz.prog 187 #[.string colNl, .int .i32 r] w fun e w' => e = .returned (.int .i64 (-1)) ∧ RowKit.Below w.heap.size w w' := by
 have hrel : ARel w (fun _ => True) [sv [58, 10], i32 r] #[.string colNl, .int .i32 r] := by
  refine ⟨rfl, fun i a v ha hv => ?_⟩
  match i, ha, hv with
  | 0, ha, hv => cases ha; cases hv; exact strRel [58, 10]
  | 1, ha, hv => cases ha; cases hv; exact .d _ _ (.int _ _)
  |i + 2, ha, hv => cases ha
 have hinv := h w (fun _ => True) _ hI hrel
 unfold Invokes at hinv
 rw [show Sem.run EE.P (callFunc 187 #[.string colNl, .int .i32 r]) w = _ from ent187 _ w] at hinv
 refine Calls.mono (show Calls Tryz.prog 187 _ w _ from hinv) ?_
 rintro e w' ⟨v, rfl, r', rfl, hb, hr⟩
 cases hr with
 |d _ _ hd => cases hd; exact ⟨rfl, hb⟩
theorem idxRune {w : World} (hI : EE.I w) (r : Int) (h0 : 0 ≤ r) (h1 : r ≤ 2147483647) : Calls Tryz.prog 187 #[.string colNl, .int .i32 r] w fun e w' => ∃ k : Int, e = .returned (.int .i64 k) ∧ (0 ≤ k ↔ (r = 58 ∨ r = 10)) ∧ RowKit.Below w.heap.size w w' := by
 by_cases ha : r < 128
 ·refine Calls.mono (Any.strings_IndexRune_ascii (ρ := Tryz.laysAny_ren) { Tryz.laysAny with } colNl r w h0 ha) ?_
  rintro e w' ⟨rfl, rfl⟩
  refine ⟨_, rfl, ?_, RowKit.Below.refl _ _⟩
  have hc := Lib.contains_iff_indexByte [58, 10] r.toNat.toUInt8
  have hn : r.toNat.toUInt8.toNat = r.toNat := by
   show r.toNat % 256 = _
   omega
  have e1 : ([58, 10] : List UInt8).contains r.toNat.toUInt8 = true ↔ (r = 58 ∨ r = 10) := by
   simp only [List.contains_eq_mem, List.mem_cons, List.not_mem_nil, or_false, decide_eq_true_eq]
   constructor
   ·rintro (e | e)
    ·have := congrArg UInt8.toNat e
     rw [hn] at this
     left
     have h2 : (58 : UInt8).toNat = 58 := rfl
     omega
    ·have := congrArg UInt8.toNat e
     rw [hn] at this
     right
     have h2 : (10 : UInt8).toNat = 10 := rfl
     omega
   ·rintro (rfl | rfl)
    ·left; rfl
    ·right; rfl
  rw [← e1, hc]
  exact (decide_eq_true_iff).symm
 ·have no : ∀ {e w'}, e = Ending.returned (.int .i64 (-1)) ∧ RowKit.Below w.heap.size w w' → ∃ k : Int, e = .returned (.int .i64 k) ∧ (0 ≤ k ↔ (r = 58 ∨ r = 10)) ∧ RowKit.Below w.heap.size w w' :=
   fun ⟨h, hb⟩ => ⟨-1, h, ⟨fun h => absurd h (by omega), fun h => by omega⟩, hb⟩
  by_cases hE : r = 65533
  ·subst hE
   exact Calls.mono (indexRune_err (ρ := Tryz.laysAny_ren) { Tryz.laysAny with } w) fun e w' h => no h
  ·cases hv : Utf8.valid r with
   |true => exact Calls.mono (rune_calls hI (IndexRune_ok r hv (by omega) hE)) fun e w' h => no h
   |false => exact Calls.mono (rune_calls hI (IndexRune_bad r hv (by omega) hE)) fun e w' h => no h
theorem signs_count (s : List UInt8) : NoSign ⟨s.toArray⟩ s.length ↔ (s.count 58 = 0 ∧ s.count 10 = 0) := by
 have hg : ∀ j (h : j < s.length), (⟨s.toArray⟩ : ByteArray).get! j = s[j] := fun j h => by
  rw [get_bang _ j (by exact h)]
  rfl
 rw [List.count_eq_zero, List.count_eq_zero]
 constructor
 ·intro h
  refine ⟨fun hm => ?_, fun hm => ?_⟩
  ·obtain ⟨j, hj, e⟩ := List.getElem_of_mem hm
   exact h j hj (.inl (by rw [hg j hj, e]; rfl))
  ·obtain ⟨j, hj, e⟩ := List.getElem_of_mem hm
   exact h j hj (.inr (by rw [hg j hj, e]; rfl))
 ·rintro ⟨h1, h2⟩ j hj (e | e)
  ·rw [hg j hj] at e
   exact h1 ((UInt8.toNat_inj.1 (show s[j].toNat = (58 : UInt8).toNat from e)) ▸ List.getElem_mem hj)
  ·rw [hg j hj] at e
   exact h2 ((UInt8.toNat_inj.1 (show s[j].toNat = (10 : UInt8).toNat from e)) ▸ List.getElem_mem hj)
theorem any_count : ∀ s : List UInt8, 0 ≤ Lib.indexAny s [58, 10] ↔ ¬ (s.count 58 = 0 ∧ s.count 10 = 0)
 | [] => by simp [Lib.indexAny]
 |b :: s => by
  have ih := any_count s
  have hge := Lib.indexAny_ge [58, 10] s
  unfold Lib.indexAny
  by_cases hc : ([58, 10] : List UInt8).contains b = true
  ·rw [if_pos hc]
   have : b = 58 ∨ b = 10 := by simpa using hc
   refine ⟨fun _ => ?_, fun _ => Int.le_refl _⟩
   rcases this with rfl | rfl
   ·rintro ⟨h, _⟩; simp at h
   ·rintro ⟨_, h⟩; simp at h
  ·rw [if_neg hc]
   have hb : b ≠ 58 ∧ b ≠ 10 := by simpa using hc
   rw [List.count_cons_of_ne hb.1, List.count_cons_of_ne hb.2, ← ih]
   split
   ·rename_i h
    have : Lib.indexAny s [58, 10] = -1 := by simpa using h
    omega
   ·rename_i h
    have : Lib.indexAny s [58, 10] ≠ -1 := by simpa using h
    omega
theorem IndexAny_ok (s : List UInt8) (hs : s.length ≤ 1048576) : CallsTo EE 154 [sv s, sv [58, 10]] (fun r => ∃ k : Int, r = i64 k ∧ (0 ≤ k ↔ ¬ (s.count 58 = 0 ∧ s.count 10 = 0))) := by
 intro w A vs hI hA
 obtain ⟨v, u, rfl, hv, hu⟩ := two_args hA
 cases hv with
 |d _ _ hd =>
  have := strInv hd
  subst this
  cases hu with
  |d _ _ hd2 =>
   have := strInv hd2
   subst this
   unfold Invokes
   rw [show Sem.run EE.P (callFunc 154 _) w = _ from ent154 _ w]
   have hsz : (⟨s.toArray⟩ : ByteArray).size = s.length := rfl
   by_cases h8 : s.length ≤ 8
   ·refine Calls.mono (show Calls Tryz.prog 154 _ _ _ from indexAny_short (ρ := Tryz.laysAny_ren) Tryz.laysAny w (fun r w1 hb h0 h1 => idxRune (EE.Imono _ _ hI hb) r h0 h1) ⟨s.toArray⟩ h8) ?_
    rintro e w' ⟨k, rfl, hk, hb⟩
    exact ⟨_, rfl, _, ⟨k, rfl, by rw [hk, hsz, signs_count]⟩, hb, .d _ _ (.int _ _)⟩
   ·refine Calls.mono (show Calls Tryz.prog 154 _ _ _ from Any.strings_IndexAny_long (ρ := Tryz.laysAny_ren) Tryz.laysAny (zero_of_info Tryz.setAny).1 (zero_of_info Tryz.setAny).2 ⟨s.toArray⟩ ⟨[58, 10].toArray⟩ w (by show 2 ≤ 2; omega) (by rw [hsz]; omega) (by rw [hsz]; omega) (by show 2 < 4294967281; omega) (fun j b hb => ?_)) ?_
    ·match j, hb with
     | 0, hb => cases hb; decide
     | 1, hb => cases hb; decide
    ·rintro e w' ⟨rfl, rfl⟩
     exact ⟨_, rfl, _, ⟨_, rfl, any_count s⟩, ((RowKit.Below.refl _ _).alloc (Nat.le_refl _) _).alloc (by simp) _, .d _ _ (.int _ _)⟩
theorem ContainsAny_ok (s : List UInt8) (hs : s.length ≤ 1048576) : CallsTo EE 119 [sv s, sv [58, 10]] (· = bp (¬ (s.count 58 = 0 ∧ s.count 10 = 0))) := by
 refine callsTo_of_AW (fn := Tryz.f119) Tryz.func119 rfl (by kernel_rfl) rfl ?_
 conv => whnf
 refine ⟨_, IndexAny_ok s hs, ?_⟩
 rintro r ⟨k, rfl, hk⟩
 conv => whnf
 refine kbi (fun h => ?_) (fun h => ?_)
 ·have h : k ≥ 0 := of_decide_eq_true h
  conv => whnf
  exact bpt (hk.1 h)
 ·have h : ¬ k ≥ 0 := fun e => h (decide_eq_true e)
  conv => whnf
  exact bpf fun e => h (hk.2 e)
end Ai
end
section
set_option maxRecDepth 100000
namespace Ai
open Go Go.Proofs
theorem lawGoes (p : ProgL) (hp : p.wf) (hv : p.flt) (f : FoundL) (hf : f.wf ∧ ∀ x ∈ f.picks, I64 x) : CallsTo EE 10 [agg (encProg p), agg (encFound f)] (· = bv true) :=
 lawGoes0 (fun s hs => ContainsAny_ok s (by omega)) p hp hv f hf.1 hf.2
end Ai
end
