import Derived.Test.YtmcammamjbfkfaaGreatDoorAiMem6
set_option maxHeartbeats 1000000
set_option linter.unusedVariables false
set_option linter.unusedSimpArgs false
namespace Ai
open Go Go.RowKit
section
variable {E : Env} {N : Nat} {A : Nat → Prop} {w0 w w' : World} {m m' : Own} {s s' : St} {a : Act} {dst : Option Tmp} {k : St → Prop}

/-- What a callee may see: all that is there. -/
def okAll (A : Nat → Prop) (s : St) (m : Own) (w : World) (b : Nat) : Prop := b < w.heap.size ∧ (okB A s.H m w b ∨ ∃ o p, s.H o ≠ none ∧ m o = some p ∧ p.1 = b)

theorem okAll_of (b : Nat) (h : okB A s.H m w b) : okAll A s m w b := ⟨h.1, .inl h⟩

theorem fz1s_get : ∀ (cs : List AV) (xs : List D), fz1s s cs = some xs → xs.length = cs.length ∧ ∀ (i : Nat) (x : D), xs[i]? = some x → ∃ c, cs[i]? = some c ∧ fz1 s c = some x
  | [], xs, h => by simp [fz1s] at h; subst h; simp
  | c :: cs, xs, h => by
    simp only [fz1s] at h
    split at h
    · rename_i x hx
      split at h
      · rename_i ys hy
        simp only [Option.some.injEq] at h
        subst h
        obtain ⟨h1, h2⟩ := fz1s_get cs ys hy
        refine ⟨by simp [h1], fun i y hi => ?_⟩
        cases i with
        | zero => simp at hi; subst hi; exact ⟨c, rfl, hx⟩
        | succ i => simp at hi; obtain ⟨c', h3, h4⟩ := h2 i y hi; exact ⟨c', by simpa using h3, h4⟩
      · cases h
    · cases h
theorem fzps_get : ∀ (cs : List AV) (xs : List AV), fzps s cs = some xs → xs.length = cs.length ∧ ∀ (i : Nat) (x : AV), xs[i]? = some x → ∃ c, cs[i]? = some c ∧ fzp s c = some x
  | [], xs, h => by simp [fzps] at h; subst h; simp
  | c :: cs, xs, h => by
    simp only [fzps] at h
    split at h
    · rename_i x hx
      split at h
      · rename_i ys hy
        simp only [Option.some.injEq] at h
        subst h
        obtain ⟨h1, h2⟩ := fzps_get cs ys hy
        refine ⟨by simp [h1], fun i y hi => ?_⟩
        cases i with
        | zero => simp at hi; subst hi; exact ⟨c, rfl, hx⟩
        | succ i => simp at hi; obtain ⟨c', h3, h4⟩ := h2 i y hi; exact ⟨c', by simpa using h3, h4⟩
      · cases h
    · cases h
theorem fzs_get : ∀ (cs : List AV) (xs : List AV), fzs s cs = some xs → xs.length = cs.length ∧ ∀ (i : Nat) (x : AV), xs[i]? = some x → ∃ c, cs[i]? = some c ∧ fz s c = some x
  | [], xs, h => by simp [fzs] at h; subst h; simp
  | c :: cs, xs, h => by
    simp only [fzs] at h
    split at h
    · rename_i x hx
      split at h
      · rename_i ys hy
        simp only [Option.some.injEq] at h
        subst h
        obtain ⟨h1, h2⟩ := fzs_get cs ys hy
        refine ⟨by simp [h1], fun i y hi => ?_⟩
        cases i with
        | zero => simp at hi; subst hi; exact ⟨c, rfl, hx⟩
        | succ i => simp at hi; obtain ⟨c', h3, h4⟩ := h2 i y hi; exact ⟨c', by simpa using h3, h4⟩
      · cases h
    · cases h

abbrev noH : Nat → Option Ob := fun _ => none
abbrev noM : Own := fun _ => none

theorem hasOwnL_of : ∀ {cs : List AV} {i : Nat} {c : AV}, cs[i]? = some c → hasOwn c = true → hasOwnL cs = true
  | [], i, c, h, _ => by simp at h
  | v :: vs, 0, c, h, ho => by simp at h; subst h; simp [hasOwnL, ho]
  | v :: vs, i + 1, c, h, ho => by simp at h; simp [hasOwnL, hasOwnL_of h ho]

section
variable (h : SRel E N A w0 m s a w) {ok : Nat → Prop} (hok : ∀ b, okB A s.H m w b → ok b) {B : Bool} (hown : B = true → ∀ o p, s.H o ≠ none → m o = some p → ok p.1)
include h hok hown

theorem ref_live {x : AV} {v : Value} (hB : hasOwn x = true → B = true) (hx : VRel w (okB A s.H m w) m s.H x v) {d : D} (hd : fz1 s x = some d) : RepD w ok d v :=
  fz1_rep h hok (fun o off n he p hp => hown (hB (by rw [he]; rfl)) o p (by
    subst he
    cases hx with
    | ref _ _ _ e sz els b full cap hH => simp [hH]
    | ref0 _ e sz hH => simp [hH]) hp) hx hd

theorem fzp_rep {x : AV} {v : Value} (hB : hasOwn x = true → B = true) (hx : VRel w (okB A s.H m w) m s.H x v) {y : AV} (hy : fzp s x = some y) : VRel w ok noM noH y v := by
  cases hx with
  | fp cs b off us hb hc =>
    simp only [fzp, Option.some.injEq] at hy
    subst hy
    exact .fp cs b off us (hok b hb) fun i d hi => ⟨(hc i d hi).1, (hc i d hi).2.mono fun b hb => ⟨hok b hb, rfl⟩⟩
  | ptr o off e cs b full hH hm =>
    simp only [fzp, hH] at hy
    split at hy
    · rename_i xs hxs
      simp only [Option.some.injEq] at hy
      subst hy
      obtain ⟨hl, hg⟩ := fz1s_get _ _ hxs
      obtain ⟨b', full', cur, hm', hbb, hcur, hsz, hcells⟩ := h.objs o _ hH
      rw [hm] at hm'
      injection hm' with hm'
      injection hm' with e1 e2
      subst e1; subst e2
      refine .fp xs b off (fun i => (w.cell? ⟨b, off + i, none⟩).getD undef) (hown (hB rfl) o _ (by simp [hH]) hm) fun i d hi => ?_
      obtain ⟨c, hc1, hc2⟩ := hg i d hi
      rw [List.getElem?_drop] at hc1
      obtain ⟨u, hu, hv⟩ := hcells _ c hc1
      have hcell : w.cell? ⟨b, off + i, none⟩ = some u := by simp [World.cell?, hcur, hu]
      rw [hcell]
      exact ⟨rfl, ref_live h hok hown (fun _ => hB rfl) hv hc2⟩
    · cases hy
  | eptr o j off e sz els b full hH hj hm =>
    simp only [fzp, hH] at hy
    split at hy
    · rename_i c hc
      simp only [Option.some.injEq] at hy
      subst hy
      obtain ⟨hmn, _⟩ | ⟨b', full', cur, hm', hbb, hcur, hlen, hmax, hszc, hcells⟩ := h.objs o _ hH
      · rw [hm] at hmn; cases hmn
      · rw [hm] at hm'
        injection hm' with hm'
        injection hm' with e1 e2
        subst e1; subst e2
        refine .fp _ b _ (fun i => (w.cell? ⟨b, (j * sz + off) + i, none⟩).getD undef) (hown (hB rfl) o _ (by simp [hH]) hm) fun i d hi => ?_
        rw [List.getElem?_drop] at hi
        obtain ⟨u, hu, hr⟩ := (hcells j c hc).2 _ d hi
        have hcell : w.cell? ⟨b, (j * sz + off) + i, none⟩ = some u := by simp [World.cell?, hcur, Nat.add_assoc, hu]
        rw [hcell]
        exact ⟨rfl, hr.mono fun b hb => ⟨hok b hb, rfl⟩⟩
    · cases hy
  | junk v => simp [fzp, fz1] at hy
  | d x v hx =>
    cases x <;> simp only [fzp, fz1, Option.some.injEq] at hy <;> subst hy <;> exact .d _ _ (ref_live h hok hown (x := .d _) (fun hh => by simp [hasOwn] at hh) (.d _ _ hx) rfl)
  | ref o off n e sz els b full cap hH hn hm hcap hnc =>
    simp only [fzp] at hy
    split at hy
    · rename_i x hx
      simp only [Option.some.injEq] at hy
      subst hy
      exact .d _ _ (ref_live h hok hown (fun _ => hB rfl) (.ref o off n e sz els b full cap hH hn hm hcap hnc) hx)
    · cases hy
  | ref0 o e sz hH hm =>
    simp only [fzp] at hy
    split at hy
    · rename_i x hx
      simp only [Option.some.injEq] at hy
      subst hy
      exact .d _ _ (ref_live h hok hown (fun _ => hB rfl) (.ref0 o e sz hH hm) hx)
    · cases hy
  | agg cs us hl hr => simp [fzp, fz1] at hy
  | tup cs us hl hr => simp [fzp, fz1] at hy
  | fn f cs us hl hr => simp [fzp, fz1] at hy

theorem fz_rep {x : AV} {v : Value} (hB : hasOwn x = true → B = true) (hx : VRel w (okB A s.H m w) m s.H x v) {y : AV} (hy : fz s x = some y) : VRel w ok noM noH y v := by
  cases x with
  | agg cs =>
    simp only [fz] at hy
    split at hy
    · rename_i xs hxs
      simp only [Option.some.injEq] at hy
      subst hy
      obtain ⟨hl, hg⟩ := fz1s_get _ _ hxs
      cases hx with
      | agg _ us hls hr =>
        refine .agg _ us (by simp; omega) fun i c u hc hu => ?_
        simp only [List.getElem?_map, Option.map_eq_some_iff] at hc
        obtain ⟨d, hd, rfl⟩ := hc
        obtain ⟨c0, h1, h2⟩ := hg i d hd
        exact .d _ _ (ref_live h hok hown (fun hh => hB (hasOwnL_of h1 hh)) (hr i c0 u h1 hu) h2)
    · cases hy
  | fn f caps =>
    simp only [fz] at hy
    split at hy
    · rename_i xs hxs
      simp only [Option.some.injEq] at hy
      subst hy
      obtain ⟨hl, hg⟩ := fzps_get _ _ hxs
      cases hx with
      | fn _ _ us hls hr =>
        refine .fn f _ us (by omega) fun i c u hc hu => ?_
        obtain ⟨c0, h1, h2⟩ := hg i c hc
        exact fzp_rep h hok hown (fun hh => hB (hasOwnL_of h1 hh)) (hr i c0 u h1 hu) h2
    · cases hy
  | junk => exact fzp_rep h hok hown hB hx hy
  | d x => exact fzp_rep h hok hown hB hx hy
  | fp cs => exact fzp_rep h hok hown hB hx hy
  | ref o off n => exact fzp_rep h hok hown hB hx hy
  | ptr o off => exact fzp_rep h hok hown hB hx hy
  | eptr o j off => exact fzp_rep h hok hown hB hx hy
  | tup vs => exact fzp_rep h hok hown hB hx hy
  | uq e sz els => exact fzp_rep h hok hown hB hx hy
end

/-- Nothing that was there has turned: all stands behind a call as it stood ahead of it. -/
theorem SRel.below' (h : SRel E N A w0 m s a w) (hb : Below w.heap.size w w') : SRel E N A w0 m s a w' := by
  have hok : ∀ b, okB A s.H m w b → okB A s.H m w' b ∧ w'.heap[b]? = w.heap[b]? := fun b hb2 => ⟨⟨Nat.lt_of_lt_of_le hb2.1 hb.size, hb2.2⟩, hb.block b hb2.1⟩
  refine ⟨h.size, h.defers, ⟨hb.os.trans h.below.os, hb.tape.trans h.below.tape, hb.output.trans h.below.output, Nat.le_trans h.below.size hb.size, fun q hq => (hb.block q (Nat.lt_of_lt_of_le hq h.below.size)).trans (h.below.block q hq)⟩, h.inv,
    fun i hi => (h.tmps i hi).mono hok (Like.refl _ _), fun o ob ho => ?_, h.inj, h.hA⟩
  have hor := h.objs o ob ho
  have hblk : ∀ p, m o = some p → w'.heap[p.1]? = w.heap[p.1]? := fun p hp => hb.block _ (own_lt h (by simp [ho]) hp)
  cases ob with
  | vs e cs =>
    obtain ⟨b, full, cur, hm, hbb, hcur, hsz, hc⟩ := hor
    exact ⟨b, full, cur, hm, hbb, (hblk _ hm).trans hcur, hsz, fun i c hi => let ⟨u, hu, hv⟩ := hc i c hi; ⟨u, hu, hv.mono hok (Like.refl _ _)⟩⟩
  | ds e sz els =>
    rcases hor with hp | ⟨b, full, cur, hm, hbb, hcur, h1, h2, h3, hc⟩
    · exact .inl hp
    · exact .inr ⟨b, full, cur, hm, hbb, (hblk _ hm).trans hcur, h1, h2, h3, fun j c hj => ⟨(hc j c hj).1, fun i d hi => let ⟨u, hu, hr⟩ := (hc j c hj).2 i d hi; ⟨u, hu, hr.mono hok⟩⟩⟩

theorem flat_rep {ok ok' : Nat → Prop} {d : D} {v : Value} (hf : flatD d = true) (hr : RepD w ok d v) : RepD w ok' d v := by
  cases hr with
  | sl els sz b off cap us h1 h2 h3 h4 =>
    cases els with
    | nil => exact .sl0 _ _
    | cons c cs => simp [flatD] at hf
  | bool b => exact .bool b
  | int kk n => exact .int kk n
  | flt b => exact .flt b
  | str b => exact .str b
  | nil => exact .nil
  | sl0 ad cap => exact .sl0 ad cap

/-- A result of which nothing lies in memory may be taken by whom it may. -/
theorem flat_val {ok ok' : Nat → Prop} {r : AV} {v : Value} (hf : Flat r) (hr : VRel w ok noM noH r v) : VRel w ok' noM noH r v := by
  cases hr with
  | junk v => exact .junk v
  | d x v hx => exact .d x v (flat_rep hf hx)
  | agg cs us hl hc =>
    refine .agg cs us hl fun i c u hi hu => ?_
    obtain ⟨x, rfl, hx⟩ := hf c (List.mem_of_getElem? hi)
    cases hc i _ u hi hu with
    | d _ _ hr => exact .d _ _ (flat_rep hx hr)
  | tup cs us hl hc =>
    refine .tup cs us hl fun i c u hi hu => ?_
    rcases hf c (List.mem_of_getElem? hi) with ⟨x, rfl, hx⟩ | ⟨ds, rfl, hds⟩
    · cases hc i _ u hi hu with
      | d _ _ hr => exact .d _ _ (flat_rep hx hr)
    · cases hc i _ u hi hu with
      | agg _ us' hl' hc' =>
        refine .agg _ us' hl' fun j c u' hj hu' => ?_
        have hj2 := hj
        simp only [List.getElem?_map, Option.map_eq_some_iff] at hj
        obtain ⟨x, hx, rfl⟩ := hj
        cases hc' j _ u' hj2 hu' with
        | d _ _ hr => exact .d _ _ (flat_rep (List.all_eq_true.1 hds x (List.mem_of_getElem? hx)) hr)
  | fp cs b off us h1 h2 => exact absurd hf (by simp [Flat])
  | fn f cs us hl hc => exact absurd hf (by simp [Flat])
  | ref o off n e sz els b full cap hH => cases hH
  | ref0 o e sz hH => cases hH
  | ptr o off e cs b full hH => cases hH
  | eptr o j off e sz els b full hH => cases hH

theorem VRel.lift {ok ok' : Nat → Prop} {H : Nat → Option Ob} {r : AV} {v : Value} (hok : ∀ b, ok b → ok' b) (hr : VRel w ok noM noH r v) : VRel w ok' m H r v := by
  induction hr with
  | junk v => exact .junk v
  | d x v hx => exact .d x v (hx.mono fun b hb => ⟨hok b hb, rfl⟩)
  | fp cs b off us h1 h2 => exact .fp cs b off us (hok b h1) fun i d hi => ⟨(h2 i d hi).1, (h2 i d hi).2.mono fun b hb => ⟨hok b hb, rfl⟩⟩
  | agg cs us hl hc ih => exact .agg cs us hl ih
  | tup cs us hl hc ih => exact .tup cs us hl ih
  | fn f cs us hl hc ih => exact .fn f cs us hl ih
  | ref o off n e sz els b full cap hH => cases hH
  | ref0 o e sz hH => cases hH
  | ptr o off e cs b full hH => cases hH
  | eptr o j off e sz els b full hH => cases hH

/-- What a call hands back, taken by the caller. -/
theorem ret_sound (h : SRel E N A w0 m s a w) (hbw : Below w.heap.size w w') {ok : Nat → Prop} {r : AV} {v : Value}
    (hblk : ∀ b, ok b → okB A s.H m w' b)
    (hr : RRok w' w.heap.size ok r v)
    (hk : retK dst s k r) : ∃ m' s', SRel E N A w0 m' s' (a.put dst v) w' ∧ k s' := by
  have h' := h.below' hbw
  have plain : VRel w' ok noM noH r v → k (put dst r s) → ∃ m' s', SRel E N A w0 m' s' (a.put dst v) w' ∧ k s' :=
    fun hv hk => ⟨m, _, h'.put dst (hv.lift hblk), hk⟩
  cases r with
  | uq e sz els =>
    simp only [RRok] at hr
    simp only [retK] at hk
    have fresh : ∀ b, w.heap.size ≤ b → b < w'.heap.size → okB A s.H m w' b := fun b h1 h2 =>
      ⟨h2, fun o ho p hp he => by have := own_lt h ho hp; omega, h.hA b (Nat.le_trans h.below.size h1)⟩
    rcases hk with hk | ⟨t, rfl, hk⟩
    · refine ⟨m, _, h'.put dst (v := .d (.sl els)) ?_, hk⟩
      rcases hr with ⟨rfl, rfl⟩ | ⟨b, full, cur, rfl, hb, hcur, hle, hmax, hsz, hc⟩
      · exact .d _ _ (.sl0 _ _)
      · refine .d _ _ (.sl els sz b 0 full (fun q => (cur[q]?).getD undef) (fresh b hb (Array.getElem?_eq_some_iff.1 hcur).1) hle (fun j c hj => ⟨(hc j c hj).1, fun i d hi => ?_⟩) (fun j c hj i d hi => ?_))
        · obtain ⟨u, hu, _⟩ := (hc j c hj).2 i d hi
          simp [World.cell?, hcur, hu]
        · obtain ⟨u, hu, hr⟩ := (hc j c hj).2 i d hi
          rw [hu]
          exact hr.mono fun x hx => ⟨hblk x hx.1, rfl⟩
    · have hokw : ∀ x, okB A s.H m w x → x < w.heap.size := fun x hx => hx.1
      rcases hr with ⟨rfl, rfl⟩ | ⟨b, full, cur, rfl, hb, hcur, hle, hmax, hsz, hc⟩
      · -- nothing yet
        have hS : SRel E N A w0 (updM m t none) (s.new t (.ds e sz [])) a w' := by
          refine h'.change t (fun i => rfl) (fun o hne => ?_) (fun o hne => updM_ne m _ hne) h'.below (fun b hb => ⟨⟨hb.1, fun o ho p hp => ?_, hb.2.2⟩, rfl⟩) (fun _ _ _ _ _ => rfl) (fun ob hob => ?_) (fun _ o hne ho p p' hp hp' => ?_)
          · simp [St.new, St.setH, St.kill, nbeq_ne hne]
          · by_cases hne : o = t
            · subst hne; rw [updM_self] at hp; cases hp
            · rw [updM_ne m _ hne] at hp
              refine hb.2.1 o (fun hh => ho ?_) p hp
              simp [St.new, St.setH, St.kill, nbeq_ne hne, hh]
          · have : ob = .ds e sz [] := by simp [St.new, St.setH, nbeq_self, scrO] at hob; exact hob.symm
            subst this; exact .inl ⟨updM_self _ _ _, rfl⟩
          · rw [updM_self] at hp; cases hp
        exact ⟨_, _, hS.put _ (v := .ref t 0 0) (.ref0 t e sz (by simp [St.new, St.setH, nbeq_self, scrO]) (updM_self _ _ _)), hk⟩
      · have hblt : b < w'.heap.size := (Array.getElem?_eq_some_iff.1 hcur).1
        have hokn : ∀ x, okB A s.H m w' x → x ≠ b → okB A (s.new t (.ds e sz els)).H (updM m t (some (b, full))) w' x := by
          intro x hx hxb
          refine ⟨hx.1, fun o ho p hp => ?_, hx.2.2⟩
          by_cases hne : o = t
          · subst hne
            rw [updM_self] at hp; injection hp with hp; subst hp
            exact fun he => hxb he.symm
          · rw [updM_ne m _ hne] at hp
            refine hx.2.1 o (fun hh => ho ?_) p hp
            simp [St.new, St.setH, St.kill, nbeq_ne hne, hh]
        have hS : SRel E N A w0 (updM m t (some (b, full))) (s.new t (.ds e sz els)) a w' := by
          refine h.change t (fun i => rfl) (fun o hne => ?_) (fun o hne => updM_ne m _ hne) h'.below (fun x hx => ⟨hokn x ⟨Nat.lt_of_lt_of_le hx.1 hbw.size, hx.2⟩ (by have := hx.1; omega), hbw.block x hx.1⟩) (fun o _ ho p hp => hbw.block _ (own_lt h ho hp)) (fun ob hob => ?_) (fun _ o hne ho p p' hp hp' => ?_)
          · simp [St.new, St.setH, St.kill, nbeq_ne hne]
          · have : ob = .ds e sz els := by simp [St.new, St.setH, nbeq_self, scrO] at hob; exact hob.symm
            subst this
            exact .inr ⟨b, full, cur, updM_self _ _ _, Nat.le_trans h.below.size hb, hcur, hle, hmax, hsz, fun j c hj => ⟨(hc j c hj).1, fun i d hi =>
              let ⟨u, hu, hr⟩ := (hc j c hj).2 i d hi
              ⟨u, hu, hr.mono fun x hx => ⟨hokn x (hblk x hx.1) hx.2, rfl⟩⟩⟩⟩
          · rw [updM_self] at hp
            injection hp with hp; subst hp
            have := own_lt h ho hp'
            simp; omega
        refine ⟨_, _, hS.put _ (v := .ref t 0 els.length) ?_, hk⟩
        have := VRel.ref (w := w') (ok := okB A (s.new t (.ds e sz els)).H (updM m t (some (b, full))) w') (m := updM m t (some (b, full))) (H := (s.new t (.ds e sz els)).H) t 0 els.length e sz els b full full
          (by simp [St.new, St.setH, nbeq_self, scrO]) (by omega) (updM_self _ _ _) (fun _ => rfl) hle
        rw [Nat.zero_mul] at this
        exact this
  | _ => exact plain hr hk


theorem Invokes.mono {P : Program} {f : FuncId} {vs : Array Value} {w : World} {post post' : Value → World → Prop} (h : Invokes P f vs w post) (hp : ∀ v w', post v w' → post' v w') : Invokes P f vs w post' := by
  unfold Invokes at *
  split at h
  · rename_i g args w1 hrun
    exact Calls.mono h fun e w2 ⟨v, he, hv⟩ => ⟨v, he, hp v w2 hv⟩
  · exact hp _ _ h
  · exact h.elim
/-- A call that takes a row for good. -/
theorem take_core (h : SRel E N A w0 m s a w) {g o e sz : Nat} {els : List (List D)} {R : AV → Prop} {v : Value} (ho : s.H o = some (.ds e sz els)) (hC : TakesTo E g e sz els R)
    (hv : VRel w (okB A s.H m w) m s.H (.ref o 0 els.length) v) (hk : ∀ r, R r → k (put dst r (s.kill o))) : Invokes E.P g #[v] w (fun v w' => ∃ m' s', SRel E N A w0 m' s' (a.put dst v) w' ∧ k s') := by
  have hor := h.objs o _ ho
  generalize hn : els.length = n at hv
  cases hv with
  | ref _ _ _ e2 sz2 els2 b full cap hH hn2 hm hcap hnc =>
    rw [ho] at hH
    injection hH with hH
    injection hH with e1 e2' e3
    subst e1; subst e2'; subst e3
    rcases hor with ⟨hm2, _⟩ | ⟨b2, full2, cur, hm2, hbb, hcur, h1, h2, h3, hc⟩
    · rw [hm] at hm2; cases hm2
    · rw [hm] at hm2
      injection hm2 with hm2
      injection hm2 with e1 e2
      subst e1; subst e2
      have hcf : cap = full := hcap rfl
      subst hcf
      rw [Nat.zero_mul]
      rw [← hn]
      have hlt : b < w.heap.size := (Array.getElem?_eq_some_iff.1 hcur).1
      have hnb : ∀ x, okB A s.H m w x → x ≠ b := fun x hx he => hx.2.1 o (by simp [ho]) _ hm he.symm
      have hI := hC.1 w (okB A s.H m w) b cap cur h.I hcur h1 h2 h3 (fun j c hj => ⟨(hc j c hj).1, fun i d hi => by
        obtain ⟨u, hu, hr⟩ := (hc j c hj).2 i d hi
        exact ⟨u, hu, hr.mono fun x hx => ⟨⟨hx.1, hx, hnb x hx⟩, rfl⟩⟩⟩)
      refine hI.mono ?_
      rintro v w' ⟨r, hr, hbut, hvr⟩
      have hwb : Below w0.heap.size w0 w' := ⟨hbut.os.trans h.below.os, hbut.tape.trans h.below.tape, hbut.output.trans h.below.output, Nat.le_trans h.below.size hbut.size, fun q hq =>
        (hbut.block q (Nat.lt_of_lt_of_le hq h.below.size) (by omega)).trans (h.below.block q hq)⟩
      have hok : ∀ x, okB A s.H m w x → okB A (s.kill o).H m w' x ∧ w'.heap[x]? = w.heap[x]? := fun x hx =>
        ⟨⟨Nat.lt_of_lt_of_le hx.1 hbut.size, fun o' ho' p hp => hx.2.1 o' (fun hh => ho' (by simp only [St.kill]; cases hq : Nat.beq o' o <;> simp [hh])) p hp, hx.2.2⟩, hbut.block x hx.1 (hnb x hx)⟩
      have hlive : ∀ o', (s.kill o).H o' ≠ none → o' ≠ o ∧ s.H o' ≠ none := by
        intro o' ho'
        refine ⟨fun he => ?_, fun hh => ?_⟩
        · subst he; exact ho' (by simp [St.kill, nbeq_self])
        · exact ho' (by simp only [St.kill]; cases hq : Nat.beq o' o <;> simp [hh])
      have hothers : ∀ o', o' ≠ o → s.H o' ≠ none → ∀ p, m o' = some p → p.1 ≠ b := fun o' hne ho' p hp he =>
        hne (h.inj o' o p _ ho' (by simp [ho]) hp hm he)
      have hS : SRel E N A w0 m (s.kill o) a w' := by
        refine h.change o (fun i => rfl) (fun o' hne => ?_) (fun o' _ => rfl) hwb hok (fun o' hne ho' p hp => hbut.block _ (own_lt h ho' hp) (hothers o' hne ho' p hp)) (fun ob hob => ?_) (fun hne => ?_)
        · simp [St.kill, nbeq_ne hne]
        · simp [St.kill, nbeq_self] at hob
        · simp [St.kill, nbeq_self] at hne
      refine ⟨m, _, hS.put dst (hvr.lift fun x hx => ?_), hk r hr⟩
      rcases hx.2 with hx2 | hx2 | hx2
      · exact (hok x hx2).1
      · subst hx2
        exact ⟨hx.1, fun o' ho' p hp => hothers o' (hlive o' ho').1 (hlive o' ho').2 p hp, h.hA _ hbb⟩
      · exact ⟨hx.1, fun o' ho' p hp he => by have := own_lt h (hlive o' ho').2 hp; omega, h.hA _ (Nat.le_trans h.below.size hx2)⟩
  | ref0 _ e2 sz2 hH hm =>
    have he : els = [] := List.eq_nil_of_length_eq_zero hn
    refine (hC.2 he w (okB A s.H m w) h.I).mono ?_
    rintro v w' ⟨r, hr, hb, hvr⟩
    have hS := (h.kill o).below' hb
    have hlive : ∀ o', (s.kill o).H o' ≠ none → o' ≠ o ∧ s.H o' ≠ none := by
      intro o' ho'
      refine ⟨fun he => ?_, fun hh => ?_⟩
      · subst he; exact ho' (by simp [St.kill, nbeq_self])
      · exact ho' (by simp only [St.kill]; cases hq : Nat.beq o' o <;> simp [hh])
    refine ⟨m, _, hS.put dst (hvr.lift fun x hx => ?_), hk r hr⟩
    rcases hx.2 with hx2 | hx2
    · exact ⟨Nat.lt_of_lt_of_le hx2.1 hb.size, fun o' ho' p hp => hx2.2.1 o' (hlive o' ho').2 p hp, hx2.2.2⟩
    · exact ⟨hx.1, fun o' ho' p hp he => by have := own_lt h (hlive o' ho').2 hp; omega, h.hA _ (Nat.le_trans h.below.size hx2)⟩

/-- The operation does well. -/
def OSat (E : Env) (N : Nat) (A : Nat → Prop) (w0 : World) (o : Oper) (a : Act) (w : World) (k : St → Prop) : Prop :=
  ∀ next Q, (∀ m' s' a' w', SRel E N A w0 m' s' a' w' → k s' → next a' w') → o.wp E.P a w next Q

theorem OSat.value {o : Oper} {r : Result Value} (hr : (execOp a.eval o).run E.P w = r.andThen fun v w => .ok (.value v) w) (hres : Res E N A w0 a o.dst k r) : OSat E N A w0 o a w k := by
  intro next Q hn
  obtain ⟨v, w', rfl, m', s', hS, hk⟩ := hres
  simp only [Oper.wp, hr, Result.andThen_ok, Oper.upon_value]
  exact hn m' s' _ _ hS hk
theorem OSat.unit {o : Oper} {r : Result Unit} (hr : (execOp a.eval o).run E.P w = r.andThen fun _ w => .ok .skip w) (hres : ResU E N A w0 a o.dst k r) : OSat E N A w0 o a w k := by
  intro next Q hn
  obtain ⟨w', rfl, m', s', hS, hk⟩ := hres
  simp only [Oper.wp, hr, Result.andThen_ok, Oper.upon_skip]
  exact hn m' s' _ _ hS hk

theorem evs_rel (h : SRel E N A w0 m s a w) (xs : Array Operand) : (evs N s xs).length = (xs.map a.eval).size ∧ ∀ (i : Nat) (x : AV) (v : Value), (evs N s xs)[i]? = some x → (xs.map a.eval)[i]? = some v → VRel w (okB A s.H m w) m s.H x v := by
  refine ⟨by simp [evs], fun i x v hx hv => ?_⟩
  simp only [evs, List.getElem?_map, Option.map_eq_some_iff] at hx
  obtain ⟨p, hp, rfl⟩ := hx
  simp only [Array.getElem?_map, Option.map_eq_some_iff] at hv
  obtain ⟨q, hq, rfl⟩ := hv
  have : p = q := by
    rw [Array.getElem?_toList] at hp
    rw [hp] at hq; injection hq
  subst this
  exact h.ev p

theorem rrel_ok {ok ok' : Nat → Prop} {r : AV} {v : Value} (hf : Flat r) {b0 : Nat} (hr : RRok w' b0 ok r v) : RRok w' b0 ok' r v := by
  cases r with
  | uq e sz els =>
    rcases hr with hr | ⟨b, full, cur, h1, h2, h3, h4, h5, h6, h7⟩
    · exact .inl hr
    · exact .inr ⟨b, full, cur, h1, h2, h3, h4, h5, h6, fun j c hj => ⟨(h7 j c hj).1, fun i d hi =>
        let ⟨u, hu, hr⟩ := (h7 j c hj).2 i d hi
        ⟨u, hu, flat_rep (List.all_eq_true.1 (hf c (List.mem_of_getElem? hj)) d (List.mem_of_getElem? hi)) hr⟩⟩⟩
  | _ => exact flat_val hf hr

theorem call_core (h : SRel E N A w0 m s a w) {g : FuncId} {xs : Array Value} {as : List AV} {R : AV → Prop} (B : Bool) (A' : Nat → Prop)
    (hA' : ∀ b, A' b → B = false → okB A s.H m w b) (hrel : ARel w A' as xs) (hc : CallsTo E g as R)
    (hk : ∀ r, R r → (B = true → Flat r) ∧ retK dst s k r) :
    Invokes E.P g xs w fun v w' => ∃ m' s', SRel E N A w0 m' s' (a.put dst v) w' ∧ k s' := by
  have hi := hc w A' xs h.I hrel
  have step : ∀ v w', (∃ r, R r ∧ Below w.heap.size w w' ∧ RRel w w' A' r v) → ∃ m' s', SRel E N A w0 m' s' (a.put dst v) w' ∧ k s' := by
    rintro v w' ⟨r, hR, hbw, hrr⟩
    obtain ⟨hf, hk1⟩ := hk r hR
    have fresh : ∀ b, w.heap.size ≤ b → b < w'.heap.size → okB A s.H m w' b := fun b h1 h2 =>
      ⟨h2, fun o ho p hp he => by have := own_lt h ho hp; omega, h.hA b (Nat.le_trans h.below.size h1)⟩
    cases B with
    | false =>
      refine ret_sound h hbw (ok := fun x => x < w'.heap.size ∧ (A' x ∨ w.heap.size ≤ x)) (fun b hb => ?_) ?_ hk1
      · rcases hb.2 with hb2 | hb2
        · have := hA' b hb2 rfl
          exact ⟨hb.1, this.2⟩
        · exact fresh b hb2 hb.1
      · exact hrr
    | true =>
      refine ret_sound h hbw (ok := fun x => x < w'.heap.size ∧ w.heap.size ≤ x) (fun b hb => fresh b hb.2 hb.1) ?_ hk1
      exact rrel_ok (hf rfl) hrr
  unfold Invokes at hi ⊢
  split at hi
  · rename_i g' args' w1 hrun
    exact hi.mono fun e w2 ⟨v, he, hp⟩ => ⟨v, he, step v w2 hp⟩
  · exact step _ _ hi
  · exact hi.elim

theorem aCall_sound (h : SRel E N A w0 m s a w) (o : Oper) (c : Call) (ho : o.op = .call c) (ha : aCall E N c o.dst s k) : OSat E N A w0 o a w k := by
  obtain ⟨cal, args, argT⟩ := c
  obtain ⟨hlen, hargs⟩ := evs_rel h args
  unfold aCall at ha
  cases cal with
  | invoke r nm => exact ha.elim
  | builtin b =>
    simp only at ha
    have hexec : ∀ s0 : Sem Value, (∀ cs, (Go.builtin b argT o.type cs (args.map a.eval)) = (do pure (.value (← s0)))) → (execOp a.eval o).run E.P w = (s0.run E.P w).andThen fun v w => .ok (.value v) w := by
      intro s0 hs0
      simp only [execOp, ho, resolve, invoke, Sem.run_bind, Sem.run_pure, Result.andThen_ok]
      rw [hs0]
      simp only [Sem.run_bind, Sem.run_pure]
    split at ha
    · rename_i T TT x hT hx
      have hx0 : (evs N s args)[0]? = some x := by rw [hx]; rfl
      have hl1 : args.size = 1 := by have := hlen; rw [hx] at this; simpa using this.symm
      have hv0 : (args.map a.eval)[0]? = some (a.eval args[0]) := by simp [hl1]
      have hT0 : argT[0]? = some T := by
        rw [← Array.getElem?_toList, hT]; rfl
      exact OSat.value (hexec _ (fun _ => rfl)) (aLen_sound h T o.type (hargs 0 x _ hx0 hv0) hT0 hv0 ha)
    · rename_i T T' x y hT hx
      cases hb : Nat.beq T T' with
      | false => rw [hb] at ha; exact ha.elim
      | true =>
        rw [hb] at ha
        have hTT : T = T' := Nat.eq_of_beq_eq_true hb
        subst hTT
        simp only [cond_true] at ha
        have hl2 : args.size = 2 := by have := hlen; rw [hx] at this; simpa using this.symm
        have hx0 : (evs N s args)[0]? = some x := by rw [hx]; rfl
        have hx1 : (evs N s args)[1]? = some y := by rw [hx]; rfl
        have hv0 : (args.map a.eval)[0]? = some (a.eval args[0]) := by simp [hl2]
        have hv1 : (args.map a.eval)[1]? = some (a.eval args[1]) := by simp [hl2]
        have he1 : argT = #[T, T] := by apply Array.ext'; exact hT
        have he2 : (args.map a.eval) = #[a.eval args[0], a.eval args[1]] := by
          apply Array.ext (by simp [hl2])
          intro i h1 h2
          simp [hl2] at h1
          match i, h1 with
          | 0, _ => simp
          | 1, _ => simp
        refine OSat.value (hexec _ (fun _ => rfl)) ?_
        rw [he1, he2]
        exact aAppend_sound h T o.type (hargs 0 x _ hx0 hv0) (hargs 1 y _ hx1 hv1) ha
    · rename_i Ts k1 p k2 q hx
      have hl2 : args.size = 2 := by have := hlen; rw [hx] at this; simpa using this.symm
      have hx0 : (evs N s args)[0]? = some (.d (.int k1 p)) := by rw [hx]; rfl
      have hx1 : (evs N s args)[1]? = some (.d (.int k2 q)) := by rw [hx]; rfl
      have hv0 : (args.map a.eval)[0]? = some (a.eval args[0]) := by simp [hl2]
      have hv1 : (args.map a.eval)[1]? = some (a.eval args[1]) := by simp [hl2]
      have r0 := hargs 0 _ _ hx0 hv0
      have r1 := hargs 1 _ _ hx1 hv1
      have he2 : (args.map a.eval) = #[a.eval args[0], a.eval args[1]] := by
        apply Array.ext (by simp [hl2])
        intro i h1 h2
        simp [hl2] at h1
        match i, h1 with
        | 0, _ => simp
        | 1, _ => simp
      refine OSat.value (hexec _ (fun _ => rfl)) ?_
      rw [he2]
      generalize a.eval args[0] = v0 at *
      generalize a.eval args[1] = v1 at *
      cases r0 with
      | d _ _ r0 => cases r0 with
        | int => cases r1 with
          | d _ _ r1 => cases r1 with
            | int => exact Res.same h (by simp [Builtin.min_, Builtin.min2]) (.d _ _ (.int _ _)) ha
    · rename_i Ts k1 p k2 q hx
      have hl2 : args.size = 2 := by have := hlen; rw [hx] at this; simpa using this.symm
      have hx0 : (evs N s args)[0]? = some (.d (.int k1 p)) := by rw [hx]; rfl
      have hx1 : (evs N s args)[1]? = some (.d (.int k2 q)) := by rw [hx]; rfl
      have hv0 : (args.map a.eval)[0]? = some (a.eval args[0]) := by simp [hl2]
      have hv1 : (args.map a.eval)[1]? = some (a.eval args[1]) := by simp [hl2]
      have r0 := hargs 0 _ _ hx0 hv0
      have r1 := hargs 1 _ _ hx1 hv1
      have he2 : (args.map a.eval) = #[a.eval args[0], a.eval args[1]] := by
        apply Array.ext (by simp [hl2])
        intro i h1 h2
        simp [hl2] at h1
        match i, h1 with
        | 0, _ => simp
        | 1, _ => simp
      refine OSat.value (hexec _ (fun _ => rfl)) ?_
      rw [he2]
      generalize a.eval args[0] = v0 at *
      generalize a.eval args[1] = v1 at *
      cases r0 with
      | d _ _ r0 => cases r0 with
        | int => cases r1 with
          | d _ _ r1 => cases r1 with
            | int => exact Res.same h (by simp [Builtin.max_, Builtin.max2]) (.d _ _ (.int _ _)) ha
    · exact ha.elim
  | value f =>
    simp only at ha
    have hf := h.ev f
    split at ha
    · rename_i g caps as hev has
      rw [hev] at hf
      split at ha
      · rename_i cs hcs
        generalize hfv : a.eval f = fv at hf
        cases hf with
        | fn _ _ us hul hur =>
          obtain ⟨hal, hag⟩ := fzs_get _ _ has
          obtain ⟨hcl, hcg⟩ := fzps_get _ _ hcs
          have hexec : (execOp a.eval o).run E.P w = (callFunc g ((#[] ++ args.map a.eval) ++ us)).run E.P w := by
            simp only [execOp, ho, resolve, hfv, Deferred.ofValue, invoke, Sem.run_bind, Sem.run_pure, Result.andThen_ok]
          have rel : ∀ (B : Bool) (A' : Nat → Prop), (∀ b, okB A s.H m w b → A' b) → (B = true → ∀ o p, s.H o ≠ none → m o = some p → A' p.1) → ((hasOwnL (evs N s args) || hasOwnL caps) = true → B = true) → ARel w A' (as ++ cs) ((#[] ++ args.map a.eval) ++ us) := by
            intro B A' hok hown hB
            have hok' : ∀ b, okB A s.H m w b → b < w.heap.size ∧ A' b := fun b hb => ⟨hb.1, hok b hb⟩
            have hown' : B = true → ∀ o p, s.H o ≠ none → m o = some p → p.1 < w.heap.size ∧ A' p.1 := fun hb o p ho hp => ⟨own_lt h ho hp, hown hb o p ho hp⟩
            refine ⟨by simp at hlen ⊢; omega, fun i x v hx hv => ?_⟩
            have hl2 : as.length = args.size := by simp at hlen; omega
            by_cases hi : i < as.length
            · rw [List.getElem?_append_left hi] at hx
              obtain ⟨c0, h1, h2⟩ := hag i x hx
              rw [Array.getElem?_append_left (by simp; omega)] at hv
              simp only [Array.empty_append] at hv
              exact fz_rep h hok' hown' (fun hh => hB (by simp [hasOwnL_of h1 hh])) (hargs i c0 v h1 hv) h2
            · rw [List.getElem?_append_right (by omega)] at hx
              obtain ⟨c0, h1, h2⟩ := hcg _ x hx
              rw [Array.getElem?_append_right (by simp; omega)] at hv
              have he : i - (#[] ++ args.map a.eval).size = i - as.length := by simp; omega
              rw [he] at hv
              exact fzp_rep h hok' hown' (fun hh => hB (by simp [hasOwnL_of h1 hh])) (hur _ c0 v h1 hv) h2
          have fin : Invokes E.P g ((#[] ++ args.map a.eval) ++ us) w (fun v w' => ∃ m' s', SRel E N A w0 m' s' (a.put o.dst v) w' ∧ k s') := by
            cases hB : (hasOwnL (evs N s args) || hasOwnL caps) with
            | false =>
              rw [hB] at ha
              simp only [cond_false] at ha
              obtain ⟨R, hC, hk⟩ := ha
              exact call_core h false (okB A s.H m w) (fun b hb _ => hb) (rel false _ (fun b hb => hb) (by simp) (by simp [hB])) hC (fun r hr => ⟨by simp, hk r hr⟩)
            | true =>
              rw [hB] at ha
              simp only [cond_true] at ha
              rcases ha with ⟨R, hC, hk⟩ | ⟨o2, e2, sz2, els2, R, h1, h2, h3, hC, hk⟩
              rotate_left
              · subst h2
                have hus : us = #[] := by apply Array.eq_empty_of_size_eq_zero; simpa using hul.symm
                have hl1 : args.size = 1 := by have := hlen; rw [h1] at this; simpa using this.symm
                have he2 : (args.map a.eval) = #[a.eval args[0]] := by
                  apply Array.ext (by simp [hl1])
                  intro i hi1 hi2
                  simp at hi2
                  subst hi2
                  simp
                have hv0 := hargs 0 (.ref o2 0 els2.length) (a.eval args[0]) (by rw [h1]; rfl) (by rw [he2]; rfl)
                rw [he2, hus]
                exact take_core h h3 hC hv0 hk
              exact call_core h true (fun _ => True) (by simp) (rel true _ (fun _ _ => trivial) (fun _ _ _ _ _ => trivial) (by simp)) hC (fun r hr => ⟨fun _ => (hk r hr).1, (hk r hr).2⟩)
          intro next Q hn
          simp only [Oper.wp, hexec]
          unfold Invokes at fin
          split at fin
          · rename_i g' args' w1 hrun
            rw [hrun, Oper.upon_enter]
            refine fin.mono fun e w2 ⟨v, he, m', s', hS, hk⟩ => ?_
            subst he
            exact hn m' s' _ _ hS hk
          · rename_i v w1 hrun
            rw [hrun, Oper.upon_value]
            obtain ⟨m', s', hS, hk⟩ := fin
            exact hn m' s' _ _ hS hk
          · exact fin.elim
      · exact ha.elim
    · exact ha.elim

end
end Ai
