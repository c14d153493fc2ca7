import Derived.Test.YtmcammamjbfkfaaGreatDoorAiSem
import Derived.Laws.World
import Derived.Maps.AppendAt
set_option maxHeartbeats 1000000
set_option linter.unusedVariables false
set_option linter.unusedSimpArgs false
namespace Ai
open Go Go.RowKit

section
variable {E : Env} {N : Nat} {A : Nat → Prop} {w0 w w' : World} {m m' : Own} {s s' : St} {a : Act}

theorem SRel.I (h : SRel E N A w0 m s a w) : E.I w := E.Imono w0 w h.inv h.below

theorem ofConst_rel {ok : Nat → Prop} {H : Nat → Option Ob} (v : Value) : VRel w ok m H (ofConst v) v := by
  unfold ofConst
  split
  · exact .d _ _ (.bool _)
  · exact .d _ _ (.int _ _)
  · exact .d _ _ (.flt _)
  · exact .d _ _ (.str _)
  · exact .d _ _ .nil
  · exact .junk _

theorem SRel.ev (h : SRel E N A w0 m s a w) (x : Operand) : VRel w (okB A s.H m w) m s.H (ev N s x) (a.eval x) := by
  cases x with
  | tmp t =>
    simp only [Ai.ev, Act.eval]
    by_cases ht : t < N
    · have : Nat.blt t N = true := by simpa [Nat.blt_eq] using ht
      rw [this]; exact h.tmps t ht
    · have : Nat.blt t N = false := by
        cases hb : Nat.blt t N
        · rfl
        · exact absurd (by simpa [Nat.blt_eq] using hb) ht
      rw [this]; exact .junk _
  | const v => exact ofConst_rel v
  | global g => exact .junk _
  | func f => exact .fn f [] #[] rfl (by simp)

theorem SRel.put (h : SRel E N A w0 m s a w) (dst : Option Tmp) {v : AV} {u : Value} (hv : VRel w (okB A s.H m w) m s.H v u) : SRel E N A w0 m (put dst v s) (a.put dst u) w := by
  cases dst with
  | none => exact h
  | some t =>
    refine ⟨by simp [Act.put, h.size], h.defers, h.below, h.inv, fun i hi => ?_, h.objs, h.inj, h.hA⟩
    have hs := h.size
    simp only [Ai.put, Act.put]
    by_cases hit : i = t
    · subst hit
      rw [nbeq_self]
      have : (a.tmps.setIfInBounds i u).getD i undef = u := by
        simp [Array.getD_eq_getD_getElem?, Array.getElem?_setIfInBounds, hs, hi]
      rw [this]; exact hv
    · rw [nbeq_ne hit]
      have : (a.tmps.setIfInBounds t u).getD i undef = a.tmps.getD i undef := by
        simp [Array.getD_eq_getD_getElem?, Array.getElem?_setIfInBounds, Ne.symm hit]
      rw [this]; exact h.tmps i hi

theorem ORel.scr {base κ : Nat} {H H' : Nat → Option Ob} {o : Nat} {ob : Ob} (hne : o ≠ κ) (hl : LikeBut κ H H' m m') (hin : H o = some ob)
    (hheap : ∀ b, okB A H m w b → okB A H' m' w' b ∧ w'.heap[b]? = w.heap[b]?)
    (hown : ∀ p, m o = some p → w'.heap[p.1]? = w.heap[p.1]?) (h : ORel A base w m H o ob) : ORel A base w' m' H' o (scrO κ ob) := by
  cases ob with
  | vs e cs =>
    obtain ⟨b, full, cur, hm, hb, hcur, hsz, hc⟩ := h
    refine ⟨b, full, cur, (hl.1 o e cs hne hin).2.trans hm, hb, (hown _ hm).trans hcur, by rw [scrL_length]; exact hsz, fun i c hi => ?_⟩
    rw [scrL_get] at hi
    obtain ⟨c0, hc0, rfl⟩ := Option.map_eq_some_iff.1 hi
    obtain ⟨u, hu, hv⟩ := hc i c0 hc0
    exact ⟨u, hu, hv.scr hheap hl⟩
  | ds e sz els =>
    rcases h with ⟨hm, he⟩ | ⟨b, full, cur, hm, hb, hcur, hlen, hmax, hsz, hc⟩
    · exact .inl ⟨(hl.2 o e sz els hne hin).2.trans hm, he⟩
    · refine .inr ⟨b, full, cur, (hl.2 o e sz els hne hin).2.trans hm, hb, (hown _ hm).trans hcur, hlen, hmax, hsz, fun j c hj => ⟨(hc j c hj).1, fun i d hi => ?_⟩⟩
      obtain ⟨u, hu, hr⟩ := (hc j c hj).2 i d hi
      exact ⟨u, hu, hr.mono hheap⟩

/-- The general step: one object goes, or comes anew; what else is there stays. -/
theorem SRel.change (κ : Nat) (h : SRel E N A w0 m s a w) (hτ : ∀ i, s'.τ i = scr κ (s.τ i)) (hH : ∀ o, o ≠ κ → s'.H o = (s.H o).map (scrO κ)) (hm : ∀ o, o ≠ κ → m' o = m o)
    (hb : Below w0.heap.size w0 w')
    (hheap : ∀ b, okB A s.H m w b → okB A s'.H m' w' b ∧ w'.heap[b]? = w.heap[b]?)
    (hown : ∀ o, o ≠ κ → s.H o ≠ none → ∀ p, m o = some p → w'.heap[p.1]? = w.heap[p.1]?)
    (hκ : ∀ ob, s'.H κ = some ob → ORel A w0.heap.size w' m' s'.H κ ob)
    (hinj : s'.H κ ≠ none → ∀ o, o ≠ κ → s.H o ≠ none → ∀ p p', m' κ = some p → m o = some p' → p.1 ≠ p'.1) : SRel E N A w0 m' s' a w' := by
  have hl : LikeBut κ s.H s'.H m m' := by
    constructor
    · intro o e cs hne ho
      exact ⟨⟨scrL κ cs, by rw [hH o hne, ho]; rfl⟩, hm o hne⟩
    · intro o e sz els hne ho
      exact ⟨⟨els, by rw [hH o hne, ho]; rfl, rfl⟩, hm o hne⟩
  refine ⟨h.size, h.defers, hb, h.inv, fun i hi => ?_, fun o ob ho => ?_, fun o o' p p' ho ho' hp hp' he => ?_, h.hA⟩
  · rw [hτ]; exact (h.tmps i hi).scr hheap hl
  · by_cases hne : o = κ
    · subst hne; exact hκ ob ho
    · rw [hH o hne] at ho
      obtain ⟨ob0, h0, rfl⟩ := Option.map_eq_some_iff.1 ho
      exact (h.objs o ob0 h0).scr hne hl h0 hheap (hown o hne (by simp [h0]))
  · by_cases h1 : o = κ
    · by_cases h2 : o' = κ
      · rw [h1, h2]
      · subst h1
        rw [hH o' h2] at ho'
        rw [hm o' h2] at hp'
        exact absurd he (hinj ho o' h2 (fun hh => ho' (by rw [hh]; rfl)) p p' hp hp')
    · by_cases h2 : o' = κ
      · subst h2
        rw [hH o h1] at ho
        rw [hm o h1] at hp
        exact absurd he.symm (hinj ho' o h1 (fun hh => ho (by rw [hh]; rfl)) p' p hp' hp)
      · rw [hH o h1] at ho
        rw [hH o' h2] at ho'
        rw [hm o h1] at hp
        rw [hm o' h2] at hp'
        exact h.inj o o' p p' (fun hh => ho (by rw [hh]; rfl)) (fun hh => ho' (by rw [hh]; rfl)) hp hp' he

theorem SRel.kill (κ : Nat) (h : SRel E N A w0 m s a w) : SRel E N A w0 m (s.kill κ) a w := by
  refine h.change κ (fun i => rfl) (fun o hne => ?_) (fun o _ => rfl) h.below (fun b hb => ⟨⟨hb.1, fun o ho p hp => ?_, hb.2.2⟩, rfl⟩) (fun _ _ _ _ _ => rfl) (fun ob hk => ?_) (fun hk => ?_)
  · simp [St.kill, nbeq_ne hne]
  · by_cases hne : o = κ
    · subst hne; simp [St.kill, nbeq_self] at ho
    · simp only [St.kill, nbeq_ne hne, cond_false] at ho
      exact hb.2.1 o (fun hh => ho (by rw [hh]; rfl)) p hp
  · simp [St.kill, nbeq_self] at hk
  · simp [St.kill, nbeq_self] at hk

theorem own_lt (h : SRel E N A w0 m s a w) {o : Nat} {p : Nat × Nat} (ho : s.H o ≠ none) (hp : m o = some p) : p.1 < w.heap.size := by
  cases hob : s.H o with
  | none => exact absurd hob ho
  | some ob =>
    have := h.objs o ob hob
    cases ob with
    | vs e cs =>
      obtain ⟨b, full, cur, hm, hb, hcur, _⟩ := this
      rw [hp] at hm
      injection hm with hm; subst hm
      exact (Array.getElem?_eq_some_iff.1 hcur).1
    | ds e sz els =>
      rcases this with ⟨hm, _⟩ | ⟨b, full, cur, hm, hb, hcur, _⟩
      · rw [hp] at hm; cases hm
      · rw [hp] at hm
        injection hm with hm; subst hm
        exact (Array.getElem?_eq_some_iff.1 hcur).1

theorem own_ge (h : SRel E N A w0 m s a w) {o : Nat} {p : Nat × Nat} (ho : s.H o ≠ none) (hp : m o = some p) : w0.heap.size ≤ p.1 := by
  cases hob : s.H o with
  | none => exact absurd hob ho
  | some ob =>
    have := h.objs o ob hob
    cases ob with
    | vs e cs =>
      obtain ⟨b, full, cur, hm, hb, hcur, _⟩ := this
      rw [hp] at hm
      injection hm with hm; subst hm
      exact hb
    | ds e sz els =>
      rcases this with ⟨hm, _⟩ | ⟨b, full, cur, hm, hb, hcur, _⟩
      · rw [hp] at hm; cases hm
      · rw [hp] at hm
        injection hm with hm; subst hm
        exact hb

def updM (m : Own) (κ : Nat) (p : Option (Nat × Nat)) : Own := fun o => if o = κ then p else m o
theorem updM_self (m : Own) (κ : Nat) (p : Option (Nat × Nat)) : updM m κ p κ = p := by simp [updM]
theorem updM_ne (m : Own) {κ o : Nat} (p : Option (Nat × Nat)) (h : o ≠ κ) : updM m κ p o = m o := by simp [updM, h]

theorem heap_push_lt (w : World) (ob : Obj) (b : Nat) (h : b < w.heap.size) : (w.alloc ob).heap[b]? = w.heap[b]? := Below.heap_alloc w ob b h

/-- A new block and its object. -/
theorem SRel.new (κ full : Nat) (ob : Ob) (o' : Obj) (h : SRel E N A w0 m s a w)
    (hκ : ORel A w0.heap.size (w.alloc o') (updM m κ (some (w.heap.size, full))) (s.new κ ob).H κ (scrO κ ob)) :
    SRel E N A w0 (updM m κ (some (w.heap.size, full))) (s.new κ ob) a (w.alloc o') := by
  refine h.change κ (fun i => rfl) (fun o hne => ?_) (fun o hne => updM_ne m _ hne) (h.below.alloc h.below.size _) (fun b hb => ⟨⟨?_, fun o ho p hp => ?_, hb.2.2⟩, heap_push_lt w o' b hb.1⟩) (fun o _ ho p hp => ?_) (fun ob' hk => ?_) (fun _ o hne ho p p' hp hp' => ?_)
  · simp [St.new, St.setH, St.kill, nbeq_ne hne]
  · have := hb.1; show b < (w.heap.push o').size; rw [Array.size_push]; omega
  · by_cases hne : o = κ
    · subst hne
      rw [updM_self] at hp
      injection hp with hp; subst hp
      have := hb.1; simp; omega
    · rw [updM_ne m _ hne] at hp
      refine hb.2.1 o (fun hh => ho ?_) p hp
      simp [St.new, St.setH, St.kill, nbeq_ne hne, hh]
  · exact heap_push_lt w o' p.1 (own_lt h ho hp)
  · have : ob' = scrO κ ob := by
      simp [St.new, St.setH, nbeq_self] at hk
      exact hk.symm
    subst this; exact hκ
  · rw [updM_self] at hp
    injection hp with hp; subst hp
    have := own_lt h ho hp'
    simp; omega

/-- An object's cells are turned. -/
theorem SRel.update (κ : Nat) (ob ob' : Ob) (h : SRel E N A w0 m s a w) (hob : s.H κ = some ob) (hlike : Like s.H (s.setH κ ob').H m m) (b : Nat) (full : Nat) (hm : m κ = some (b, full))
    (hb : Below w0.heap.size w0 w') (hsz : w'.heap.size = w.heap.size) (hheap : ∀ k, k ≠ b → w'.heap[k]? = w.heap[k]?)
    (hκ : ORel A w0.heap.size w' m (s.setH κ ob').H κ ob') : SRel E N A w0 m (s.setH κ ob') a w' := by
  have hne0 : ∀ o, (s.setH κ ob').H o ≠ none → s.H o ≠ none := by
    intro o ho
    by_cases hne : o = κ
    · subst hne; simp [hob]
    · simpa [St.setH, nbeq_ne hne] using ho
  have hok : ∀ k, okB A s.H m w k → okB A (s.setH κ ob').H m w' k ∧ w'.heap[k]? = w.heap[k]? := by
    intro k hk
    refine ⟨⟨by rw [hsz]; exact hk.1, fun o ho p hp => hk.2.1 o (hne0 o ho) p hp, hk.2.2⟩, hheap k ?_⟩
    intro hkb
    exact hk.2.1 κ (by simp [hob]) _ hm (by simp [hkb])
  refine ⟨h.size, h.defers, hb, h.inv, fun i hi => (h.tmps i hi).mono hok hlike, fun o obo ho => ?_, fun o o' p p' ho ho' hp hp' he => h.inj o o' p p' (hne0 o ho) (hne0 o' ho') hp hp' he, h.hA⟩
  by_cases hne : o = κ
  · subst hne
    have : obo = ob' := by simpa [St.setH, nbeq_self] using ho.symm
    subst this; exact hκ
  · have ho2 : s.H o = some obo := by simpa [St.setH, nbeq_ne hne] using ho
    have hor := h.objs o obo ho2
    have hblk : ∀ p, m o = some p → w'.heap[p.1]? = w.heap[p.1]? := by
      intro p hp
      refine hheap _ fun hpb => hne ?_
      exact h.inj o κ p (b, full) (by simp [ho2]) (by simp [hob]) hp hm hpb
    cases obo with
    | vs e cs =>
      obtain ⟨b2, full2, cur, hm2, hb2, hcur, hsz2, hc⟩ := hor
      exact ⟨b2, full2, cur, hm2, hb2, (hblk _ hm2).trans hcur, hsz2, fun i c hi => let ⟨u, hu, hv⟩ := hc i c hi; ⟨u, hu, hv.mono hok hlike⟩⟩
    | ds e sz els =>
      rcases hor with ⟨hm2, he⟩ | ⟨b2, full2, cur, hm2, hb2, hcur, hlen, hmax, hsz2, hc⟩
      · exact .inl ⟨hm2, he⟩
      · exact .inr ⟨b2, full2, cur, hm2, hb2, (hblk _ hm2).trans hcur, hlen, hmax, hsz2, fun j c hj => ⟨(hc j c hj).1, fun i d hi => let ⟨u, hu, hr⟩ := (hc j c hj).2 i d hi; ⟨u, hu, hr.mono hok⟩⟩⟩
end
end Ai
