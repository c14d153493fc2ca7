import Derived.Test.YtmcammamjbfkfaaGreatDoorAiDraw2
set_option maxHeartbeats 1000000
set_option linter.unusedVariables false
set_option linter.unusedSimpArgs false
namespace Ai
open Go Go.RowKit
section
variable {E : Env} {N : Nat} {A : Nat → Prop} {w0 w w' : World} {m m' : Own} {s s' : St} {a : Act} {dst : Option Tmp} {k : St → Prop}

/-! ### code -/
def LoopAt (P : Program) (c : Code) (Q : Exit → Act → World → Prop) (a : Act) (w : World) : Prop :=
  ∀ (b : Frame) (k : List Item) (cs : List Frame), ∃ e a' w', Q e a' w' ∧ Arrives P (lone (b.at a (.code c :: .inLoop c :: k)) cs w) b k cs e a' w'

theorem loopAt_step {P : Program} {c : Code} {Q : Exit → Act → World → Prop} {a : Act} {w : World} (h : c.wp P (Exit.then (LoopAt P c Q) Q) a w) : LoopAt P c Q a w := by
  intro b k cs
  obtain ⟨e, a₁, w₁, hq, harr⟩ := h b (.inLoop c :: k) cs
  cases e with
  | normal =>
    obtain ⟨e₂, a₂, w₂, hq₂, harr₂⟩ := hq b k cs
    exact ⟨e₂, a₂, w₂, hq₂, .of_steps (harr.trans (.one step_inLoop)) harr₂⟩
  | exit id => exact ⟨_, a₁, w₁, hq, .pass (x := .inLoop c) rfl (fun _ _ => .inl (by simp)) harr⟩
  | goto l => exact ⟨_, a₁, w₁, hq, .pass (x := .inLoop c) rfl (fun _ _ => .inl (by simp)) harr⟩
  | ret => exact ⟨_, a₁, w₁, hq, .pass (x := .inLoop c) rfl (fun _ _ => .inl (by simp)) harr⟩
  | panic ch => exact ⟨_, a₁, w₁, hq, .pass (x := .inLoop c) rfl (fun _ _ => .inl (by simp)) harr⟩
  | outgrown => exact ⟨_, a₁, w₁, hq, .pass (x := .inLoop c) rfl (fun _ _ => .inl (by simp)) harr⟩
theorem wp_of_loopAt {P : Program} {c : Code} {Q : Exit → Act → World → Prop} {a : Act} {w : World} (h : LoopAt P c Q a w) : (Code.loop c).wp P Q a w := by
  intro b k cs
  obtain ⟨e, a', w', hq, harr⟩ := h b k cs
  exact ⟨e, a', w', hq, .of_steps (.one step_loop) harr⟩

theorem AW_sound (c : Code) : ∀ (Q : AX → St → Prop) {m : Own} {s : St} {a : Act} {w : World}, SRel E N A w0 m s a w → AW E N c Q s → c.wp E.P (liftQ E N A w0 Q) a w := by
  induction c with
  | skip => exact fun Q m s a w h ha => wp_skip ⟨m, s, h, ha⟩
  | region id ops draw =>
    intro Q m s a w h ha
    cases draw with
    | false =>
      have ha2 : AOps E N ops ops.toList Q s := ha
      refine wp_region ?_
      have heq := wpOps_eq_wpList (P := E.P) (ops := ops) (Q := liftQ E N A w0 Q) ops.toList 0 (fun j => by simp)
      rw [List.range_eq_range']
      rw [show ops.size = ops.toList.length from by simp, heq]
      exact AOps_sound ops Q _ h ha2
    | true =>
      have ha2 : ADraw E N ops Q s := ha
      exact ADraw_sound ops Q h ha2
  | seq x y ihx ihy =>
    intro Q m s a w h ha
    have ha2 : AW E N x (thenQ (AW E N y Q) Q) s := ha
    refine wp_seq (wp_mono (ihx _ h ha2) fun e a' w' hq => ?_)
    cases e with
    | normal =>
      obtain ⟨m', s', hS, hk⟩ := hq
      exact ihy Q hS hk
    | exit id => exact hq
    | ret => exact hq
    | goto l => exact hq.elim
    | panic ch => exact hq.elim
    | outgrown => exact hq.elim
  | cond c x y ihx ihy =>
    intro Q m s a w h ha
    have ha2 : (match ev N s c with | .d (.bool b) => (match b with | true => AW E N x Q s | false => AW E N y Q s) | _ => False) := ha
    have hc := h.ev c
    split at ha2
    · rename_i b hb
      rw [hb] at hc
      generalize hv : a.eval c = cv at hc
      cases hc with
      | d _ _ hd => cases hd with
        | bool =>
          cases b with
          | true => exact wp_cond hv (ihx Q h ha2)
          | false => exact wp_cond hv (ihy Q h ha2)
    · exact ha2.elim
  | block id c ih =>
    intro Q m s a w h ha
    have ha2 : AW E N c (inBlockQ id Q) s := ha
    refine wp_block (wp_mono (ih _ h ha2) fun e a' w' hq => ?_)
    cases e with
    | normal => exact hq
    | exit i =>
      obtain ⟨m', s', hS, hk⟩ := hq
      simp only [inBlockQ] at hk
      simp only [Exit.inBlock]
      by_cases hi : i = id
      · subst hi
        rw [nbeq_self] at hk
        rw [if_pos rfl]
        exact ⟨m', s', hS, hk⟩
      · rw [nbeq_ne hi] at hk
        rw [if_neg hi]
        exact ⟨m', s', hS, hk⟩
    | ret => exact hq
    | goto l => exact hq.elim
    | panic ch => exact hq.elim
    | outgrown => exact hq.elim
  | loop c ih =>
    intro Q m s a w h ha
    have ha2 : ALoop E N (AW E N c) Q s := ha
    unfold ALoop at ha2
    refine wp_of_loopAt (ha2 (fun s => ∀ m a w, SRel E N A w0 m s a w → LoopAt E.P c (liftQ E N A w0 Q) a w) ?_ m a w h)
    intro s s' K hweak hb hKR m a w hS
    obtain ⟨m', hS'⟩ := hweak A w0 m a w hS
    refine loopAt_step (wp_mono (ih _ hS' hb) fun e a' w' hq => ?_)
    cases e with
    | normal =>
      obtain ⟨m2, s2, hS2, hk⟩ := hq
      exact hKR s2 hk m2 a' w' hS2
    | exit i => exact hq
    | ret => exact hq
    | goto l => exact hq.elim
    | panic ch => exact hq.elim
    | outgrown => exact hq.elim
  | rangeFunc f ps as b ihas ihb => exact fun Q m s a w h ha => False.elim ha
  | exit id => exact fun Q m s a w h ha => wp_exit ⟨m, s, h, ha⟩
  | scope b ih => exact fun Q m s a w h ha => False.elim ha
  | label l => exact fun Q m s a w h ha => False.elim ha
  | goto l => exact fun Q m s a w h ha => False.elim ha
  | ret => exact fun Q m s a w h ha => wp_ret ⟨m, s, h, ha⟩
  | refuse why => exact fun Q m s a w h ha => False.elim ha
end
end Ai
