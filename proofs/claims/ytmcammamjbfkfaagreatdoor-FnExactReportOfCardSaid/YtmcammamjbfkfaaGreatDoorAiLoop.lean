import Derived.Test.YtmcammamjbfkfaaGreatDoorAiBody
set_option maxHeartbeats 1000000
set_option linter.unusedVariables false
set_option linter.unusedSimpArgs false
namespace Ai
open Go Go.RowKit
section
variable {E : Env} {N : Nat} {A : Nat → Prop} {w0 w w' : World} {m m' : Own} {s s' s1 : St} {a : Act}

/-- Slots and objects that are known, the others being whatever they are. -/
def puts : List (Nat × AV) → St → St
  | [], s => s
  | (t, v) :: l, s => put (some t) v (puts l s)
def oks : List (Nat × AV) → St → Prop
  | [], _ => True
  | (t, v) :: l, s => s.τ t = v ∧ oks l s
def sets : List (Nat × Ob) → St → St
  | [], s => s
  | (t, v) :: l, s => (sets l s).setH t v
def okh : List (Nat × Ob) → St → Prop
  | [], _ => True
  | (t, v) :: l, s => s.H t = some v ∧ okh l s

theorem put_eq {t : Nat} {v : AV} (h : s.τ t = v) : put (some t) v s = s := by
  cases s with
  | mk τ H =>
    simp only [put, St.mk.injEq, and_true]
    funext i
    by_cases hi : i = t
    · subst hi; rw [nbeq_self]; exact h.symm
    · rw [nbeq_ne hi]; rfl
theorem setH_eq {t : Nat} {v : Ob} (h : s.H t = some v) : s.setH t v = s := by
  cases s with
  | mk τ H =>
    simp only [St.setH, St.mk.injEq, true_and]
    funext i
    by_cases hi : i = t
    · subst hi; rw [nbeq_self]; exact h.symm
    · rw [nbeq_ne hi]; rfl
theorem puts_eq : ∀ {l : List (Nat × AV)}, oks l s → puts l s = s
  | [], _ => rfl
  | (t, v) :: l, h => by
    simp only [puts]
    rw [puts_eq h.2]
    exact put_eq h.1
theorem sets_eq : ∀ {l : List (Nat × Ob)}, okh l s → sets l s = s
  | [], _ => rfl
  | (t, v) :: l, h => by
    simp only [sets]
    rw [sets_eq h.2]
    exact setH_eq h.1

theorem Weak.refl : Weak E N s s := fun A w0 m a w h => ⟨m, h⟩

/-- A loop whose rounds lower a measure. -/
theorem aloop {α : Type} {body : (AX → St → Prop) → St → Prop} {Q : AX → St → Prop} (l : α → List (Nat × AV)) (o : α → List (Nat × Ob)) (μ : α → Nat) (pre : α → Prop) (x0 : α)
    (hw : Weak E N s s1) (h0 : oks (l x0) s1) (h1 : okh (o x0) s1) (hp : pre x0)
    (step : ∀ x τ H, pre x → body (thenQ (fun s' => ∃ x', pre x' ∧ μ x' < μ x ∧ oks (l x') s' ∧ okh (o x') s') Q) (puts (l x) (sets (o x) ⟨τ, H⟩))) : ALoop E N body Q s := by
  unfold ALoop
  intro R hR
  have main : ∀ n x s, μ x < n → pre x → oks (l x) s → okh (o x) s → R s := by
    intro n
    induction n with
    | zero => intro x s h; omega
    | succ n ih =>
      intro x s hn hp h0 h1
      have hs := step x s.τ s.H hp
      have e : puts (l x) (sets (o x) ⟨s.τ, s.H⟩) = s := by
        rw [show (⟨s.τ, s.H⟩ : St) = s from rfl, sets_eq h1, puts_eq h0]
      rw [e] at hs
      exact hR s s _ Weak.refl hs fun t ⟨x', hp', hlt, h0', h1'⟩ => ih x' t (by omega) hp' h0' h1'
  -- the first round comes behind the change
  have hs := step x0 s1.τ s1.H hp
  have e : puts (l x0) (sets (o x0) ⟨s1.τ, s1.H⟩) = s1 := by
    rw [show (⟨s1.τ, s1.H⟩ : St) = s1 from rfl, sets_eq h1, puts_eq h0]
  rw [e] at hs
  exact hR s s1 _ hw hs fun t ⟨x', hp', hlt, h0', h1'⟩ => main (μ x' + 1) x' t (by omega) hp' h0' h1'

/-- The nil slice as a row of one's own that has nothing yet. -/
theorem weak_nil (t κ : Nat) (e : TypeId) (sz : Nat) (h : s.τ t = .d .nil) : Weak E N s (put (some t) (.ref κ 0 0) (s.new κ (.ds e sz []))) := by
  intro A w0 m a w hS
  have hS1 : SRel E N A w0 (updM m κ none) (s.new κ (.ds e sz [])) a w := by
    refine hS.change κ (fun i => rfl) (fun o hne => ?_) (fun o hne => updM_ne m _ hne) hS.below (fun b hb => ⟨⟨hb.1, fun o ho p hp => ?_, hb.2.2⟩, rfl⟩) (fun _ _ _ _ _ => rfl) (fun ob hob => ?_) (fun _ o hne ho p p' hp hp' => ?_)
    · simp [St.new, St.setH, St.kill, nbeq_ne hne]
    · by_cases hne : o = κ
      · subst hne; rw [updM_self] at hp; cases hp
      · rw [updM_ne m _ hne] at hp
        refine hb.2.1 o (fun hh => ho ?_) p hp
        simp [St.new, St.setH, St.kill, nbeq_ne hne, hh]
    · have : ob = .ds e sz [] := by simp [St.new, St.setH, nbeq_self, scrO] at hob; exact hob.symm
      subst this; exact .inl ⟨updM_self _ _ _, rfl⟩
    · rw [updM_self] at hp; cases hp
  refine ⟨updM m κ none, hS1.size, hS1.defers, hS1.below, hS1.inv, fun i hi => ?_, hS1.objs, hS1.inj, hS1.hA⟩
  by_cases hit : i = t
  · subst hit
    have hv := hS.tmps i hi
    rw [h] at hv
    generalize a.tmps.getD i undef = u at hv
    simp only [put, nbeq_self, cond_true]
    cases hv with
    | d _ _ hd => cases hd with
      | nil => exact .ref0 κ e sz (by simp [St.new, St.setH, nbeq_self, scrO]) (updM_self _ _ _)
  · simp only [put, nbeq_ne hit, cond_false]
    exact hS1.tmps i hi
end
end Ai
