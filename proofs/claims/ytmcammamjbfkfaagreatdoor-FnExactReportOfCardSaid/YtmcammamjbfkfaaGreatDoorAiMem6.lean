import Derived.Test.YtmcammamjbfkfaaGreatDoorAiMem5
import Derived.Laws.BytesArg
set_option maxHeartbeats 1000000
set_option linter.unusedVariables false
set_option linter.unusedSimpArgs false
namespace Ai
open Go Go.RowKit
section
variable {E : Env} {N : Nat} {A : Nat → Prop} {w0 w w' : World} {m m' : Own} {s s' : St} {a : Act} {dst : Option Tmp} {k : St → Prop}

def plainAd : Option Addr → Prop
  | none => True
  | some ad => True

/-- What is behind the second operand of an append. -/
theorem news_rel (h : SRel E N A w0 m s a w) {y : AV} {vy : Value} (hy : VRel w (okB A s.H m w) m s.H y vy) {sz : Nat} {news : List (List D)} (hn : newsOf s y = some news) (hsz : ∀ c ∈ news, c.length = sz) :
    ∃ ad cp, vy = .slice ad news.length cp ∧ (ad = none → news = []) ∧
      ∀ ad', ad = some ad' → ∀ j c, news[j]? = some c → ∀ i d, c[i]? = some d → ∃ u, w.cell? (ad'.add (j * sz + i)) = some u ∧ RepD w (okB A s.H m w) d u := by
  have emp : ∀ (ad : Option Addr) (cp : Nat), ∃ ad' cp', Value.slice ad 0 cp = .slice ad' ([] : List (List D)).length cp' ∧ (ad' = none → ([] : List (List D)) = []) ∧
      ∀ ad'', ad' = some ad'' → ∀ (j : Nat) (c : List D), ([] : List (List D))[j]? = some c → ∀ (i : Nat) (d : D), c[i]? = some d → ∃ u, w.cell? (ad''.add (j * sz + i)) = some u ∧ RepD w (okB A s.H m w) d u :=
    fun ad cp => ⟨ad, cp, rfl, fun _ => rfl, fun _ _ j c hj => by simp at hj⟩
  cases hy with
  | d x v hx =>
    cases hx with
    | nil => simp only [newsOf, Option.some.injEq] at hn; subst hn; exact emp _ _
    | sl0 ad cap => simp only [newsOf, Option.some.injEq] at hn; subst hn; exact emp _ _
    | sl els sz' b off cap us hok hlc hcc hr =>
      simp only [newsOf, Option.some.injEq] at hn
      subst hn
      refine ⟨some ⟨b, off, none⟩, cap, rfl, fun he => (by cases he), fun ad' he j c hj i d hi => ?_⟩
      injection he with he
      subst he
      obtain ⟨h1, h2⟩ := hcc j c hj
      have : sz' = sz := by rw [← h1]; exact hsz c (List.mem_of_getElem? hj)
      subst this
      rw [Addr.add_lit]
      exact ⟨_, h2 i d hi, hr j c hj i d hi⟩
    | _ => simp [newsOf] at hn
  | ref o off n e sz' els b full cap hH hle hmo hcap hnc =>
    simp only [newsOf, hH, Option.some.injEq] at hn
    subst hn
    obtain ⟨hmn, _⟩ | ⟨b', full', cur, hm', hbb, hcur, hlen, hmax, hszc, hcells⟩ := h.objs o _ hH
    · rw [hmo] at hmn; cases hmn
    · rw [hmo] at hm'
      injection hm' with hm'
      injection hm' with e1 e2
      subst e1; subst e2
      have hlen2 : ((els.drop off).take n).length = n := by simp; omega
      refine ⟨some ⟨b, off * sz', none⟩, cap, by rw [hlen2], fun he => (by cases he), fun ad' he j c hj i d hi => ?_⟩
      injection he with he
      subst he
      have hj2 : j < n := by have := (List.getElem?_eq_some_iff.1 hj).1; omega
      have hj3 := hj
      rw [List.getElem?_take, if_pos hj2, List.getElem?_drop] at hj
      obtain ⟨h1, h2⟩ := hcells _ c hj
      have : sz' = sz := by rw [← h1]; exact hsz c (List.mem_of_getElem? hj3)
      subst this
      obtain ⟨u, hu, hr⟩ := h2 i d hi
      refine ⟨u, ?_, hr⟩
      rw [Addr.add_lit]
      rw [Nat.add_mul] at hu
      simp only [World.cell?, hcur]
      rw [← Nat.add_assoc]; simpa using hu
  | ref0 o e sz' hH hmo =>
    simp only [newsOf, hH, Option.some.injEq, List.drop_nil, List.take_nil] at hn
    subst hn; exact emp _ _
  | _ => simp [newsOf] at hn

theorem append_none_run {T e : TypeId} {ei : TI} (hd : E.P.underlying T = some (.slice e)) (hei : E.Θ e = some ei) (ty : TypeId) (base : Option Addr) (n cap cp : Nat) (hn : n ≤ cap) :
    (Builtin.append_ #[T, T] ty #[.slice base n cap, .slice none 0 cp]).run E.P w = .ok (.slice base n cap) w := by
  have hs := sz_run hei w
  cases base <;> simp [Builtin.append_, run_underlying hd, hs, Builtin.lenOf, hn, Builtin.firstCells, storeCells]

/-- Behind an append: a row of the call's own, at a key. -/
theorem append_core (h : SRel E N A w0 m s a w) (κ : Nat) (e sz n : Nat) (olds news : List (List D)) {v v' : Value} {cells newv : List Value}
    (hv : (v = .slice none 0 0 ∧ n = 0) ∨ ∃ b full ob, v = .slice (some ⟨b, 0, none⟩) n full ∧ s.H κ = some ob ∧ m κ = some (b, full))
    (hrow : w'.ownsRow w0.heap.size e sz v' (n + news.length) (cells ++ newv)) (hg : w.grownBy w' v.ownBlock) (hat : v'.ownBlock = v.ownBlock ∨ v'.ownBlock = some w.heap.size)
    (hcl : cells.length = n * sz) (hol : olds.length = n) (holds : ∀ j c, olds[j]? = some c → c.length = sz ∧ ∀ i d, c[i]? = some d → ∃ u, cells[j * sz + i]? = some u ∧ RepD w (okB A s.H m w) d u)
    (hnews : ∀ j c, news[j]? = some c → c.length = sz ∧ ∀ i d, c[i]? = some d → ∃ u, newv[j * sz + i]? = some u ∧ RepD w (okB A s.H m w) d u) :
    ∃ m', SRel E N A w0 m' ((s.kill κ).setH κ (.ds e sz (olds ++ news))) a w' ∧ VRel w' (okB A ((s.kill κ).setH κ (.ds e sz (olds ++ news))).H m' w') m' ((s.kill κ).setH κ (.ds e sz (olds ++ news))).H (.ref κ 0 (n + news.length)) v' := by
  have hbase : w0.heap.size ≤ w.heap.size := h.below.size
  have hvb : ∀ q, v.ownBlock = some q → ∃ full ob, s.H κ = some ob ∧ m κ = some (q, full) := by
    intro q hq
    rcases hv with ⟨rfl, _⟩ | ⟨b, full, ob, rfl, h1, h2⟩
    · simp [Value.ownBlock] at hq
    · simp only [Value.ownBlock, Option.some.injEq] at hq
      subst hq
      exact ⟨full, ob, h1, h2⟩
  have hrowb : ∀ q, v.ownBlock = some q → w0.heap.size ≤ q := by
    intro q hq
    obtain ⟨full, ob, h1, h2⟩ := hvb q hq
    have := h.objs κ ob h1
    cases ob with
    | vs e cs =>
      obtain ⟨b, f, cur, hm, hb, _⟩ := this
      rw [h2] at hm; injection hm with hm; injection hm with e1 e2; omega
    | ds e sz els =>
      rcases this with ⟨hm, _⟩ | ⟨b, f, cur, hm, hb, _⟩
      · rw [h2] at hm; cases hm
      · rw [h2] at hm; injection hm with hm; injection hm with e1 e2; omega
  -- blocks that stay
  have hstay : ∀ b, b < w.heap.size → v.ownBlock ≠ some b → w'.heap[b]? = w.heap[b]? := fun b hb hne => hg.block b hb (fun e => hne e.symm)
  have hokne : ∀ b, okB A s.H m w b → v.ownBlock ≠ some b := by
    intro b hb he
    obtain ⟨full, ob, h1, h2⟩ := hvb b he
    exact hb.2.1 κ (by simp [h1]) _ h2 rfl
  have hothers : ∀ o, o ≠ κ → s.H o ≠ none → ∀ p, m o = some p → v.ownBlock ≠ some p.1 := by
    intro o hne ho p hp he
    obtain ⟨full, ob, h1, h2⟩ := hvb p.1 he
    exact hne (h.inj o κ p _ ho (by simp [h1]) hp h2 rfl)
  have main : ∀ p' : Option (Nat × Nat), (∀ p, p' = some p → (v.ownBlock = some p.1 ∨ p.1 = w.heap.size) ∧ p.1 < w'.heap.size) →
      ((∀ b, okB A s.H m w b → okB A ((s.kill κ).setH κ (.ds e sz (olds ++ news))).H (updM m κ p') w' b ∧ w'.heap[b]? = w.heap[b]?)) := by
    intro p' hp' b hb
    refine ⟨⟨Nat.lt_of_lt_of_le hb.1 hg.size, fun o ho p hp => ?_, hb.2.2⟩, hstay b hb.1 (hokne b hb)⟩
    by_cases hne : o = κ
    · subst hne
      rw [updM_self] at hp
      obtain ⟨h1, h2⟩ := hp' p hp
      rcases h1 with h1 | h1
      · intro he; subst he; exact hokne _ hb h1
      · intro he; have := hb.1; omega
    · rw [updM_ne m _ hne] at hp
      refine hb.2.1 o (fun hh => ho ?_) p hp
      simp [St.setH, St.kill, nbeq_ne hne, hh]
  have build : ∀ p' : Option (Nat × Nat), (∀ p, p' = some p → (v.ownBlock = some p.1 ∨ p.1 = w.heap.size) ∧ p.1 < w'.heap.size) →
      ORel A w0.heap.size w' (updM m κ p') ((s.kill κ).setH κ (.ds e sz (olds ++ news))).H κ (.ds e sz (olds ++ news)) →
      SRel E N A w0 (updM m κ p') ((s.kill κ).setH κ (.ds e sz (olds ++ news))) a w' := by
    intro p' hp' hor
    refine h.change κ (fun i => rfl) (fun o hne => ?_) (fun o hne => updM_ne m _ hne) (h.below.grown hg hbase hrowb) (main p' hp') (fun o hne ho p hp => hstay _ (own_lt h ho hp) (hothers o hne ho p hp)) (fun ob hob => ?_) (fun _ o hne ho p p2 hp hp2 => ?_)
    · simp [St.setH, St.kill, nbeq_ne hne]
    · have : ob = .ds e sz (olds ++ news) := by
        simp [St.setH, nbeq_self] at hob; exact hob.symm
      subst this; exact hor
    · rw [updM_self] at hp
      obtain ⟨h1, h2⟩ := hp' p hp
      rcases h1 with h1 | h1
      · intro he; rw [he] at h1; exact hothers o hne ho p2 hp2 h1
      · have := own_lt h ho hp2; omega
  obtain ⟨hl, hcase⟩ := hrow
  rcases hcase with ⟨rfl, hz⟩ | ⟨g, cap, cur, rfl, hb, hcur, hle, hmax, hcs, htake⟩
  · have hn0 : n = 0 := by omega
    have hnl : news = [] := List.eq_nil_of_length_eq_zero (by omega)
    subst hnl
    have ho0 : olds = [] := List.eq_nil_of_length_eq_zero (by omega)
    subst ho0
    refine ⟨updM m κ none, build none (by simp) (.inl ⟨updM_self _ _ _, rfl⟩), ?_⟩
    subst hn0
    exact .ref0 κ e sz (by simp [St.setH, nbeq_self]) (updM_self _ _ _)
  · have hglt : g < w'.heap.size := (Array.getElem?_eq_some_iff.1 hcur).1
    have hp' : ∀ p, some (g, cap) = some p → (v.ownBlock = some p.1 ∨ p.1 = w.heap.size) ∧ p.1 < w'.heap.size := by
      intro p hp
      injection hp with hp; subst hp
      refine ⟨?_, hglt⟩
      simp only [Value.ownBlock] at hat
      rcases hat with hat | hat
      · exact .inl hat.symm
      · injection hat with hat; exact .inr hat
    have hlen : (olds ++ news).length = n + news.length := by simp [hol]
    refine ⟨updM m κ (some (g, cap)), build _ hp' (.inr ⟨g, cap, cur, updM_self _ _ _, hb, hcur, by omega, hmax, hcs, fun j c hj => ?_⟩), ?_⟩
    · have hcg : ∀ (q : Nat) (u : Value), (cells ++ newv)[q]? = some u → cur[q]? = some u := by
        intro q u hq
        rw [← htake, List.getElem?_take] at hq
        split at hq
        · simpa using hq
        · cases hq
      by_cases hjn : j < n
      · rw [List.getElem?_append_left (by omega)] at hj
        obtain ⟨h1, h2⟩ := holds j c hj
        refine ⟨h1, fun i d hi => ?_⟩
        obtain ⟨u, hu, hr⟩ := h2 i d hi
        have hlt := (List.getElem?_eq_some_iff.1 hu).1
        exact ⟨u, hcg _ _ (by rw [List.getElem?_append_left hlt]; exact hu), hr.mono (main _ hp')⟩
      · rw [List.getElem?_append_right (by omega)] at hj
        obtain ⟨h1, h2⟩ := hnews _ c hj
        refine ⟨h1, fun i d hi => ?_⟩
        obtain ⟨u, hu, hr⟩ := h2 i d hi
        refine ⟨u, hcg _ _ ?_, hr.mono (main _ hp')⟩
        have hjs : j * sz = n * sz + (j - n) * sz := by rw [← Nat.add_mul]; congr 1; omega
        rw [List.getElem?_append_right (by omega)]
        rw [hol] at hu
        rw [← hu]; congr 1; omega
    · have := VRel.ref (w := w') (ok := okB A ((s.kill κ).setH κ (.ds e sz (olds ++ news))).H (updM m κ (some (g, cap))) w') (m := updM m κ (some (g, cap))) (H := ((s.kill κ).setH κ (.ds e sz (olds ++ news))).H) κ 0 (n + news.length) e sz (olds ++ news) g cap cap
        (by simp [St.setH, nbeq_self]) (by omega) (updM_self _ _ _) (fun _ => rfl) hle
      rw [Nat.zero_mul] at this
      exact this

theorem news_values {ok : Nat → Prop} {sz : Nat} (hsz : 0 < sz) {news : List (List D)} (hl : ∀ c ∈ news, c.length = sz) (ad : Addr)
    (hc : ∀ j c, news[j]? = some c → ∀ i d, c[i]? = some d → ∃ u, w.cell? (ad.add (j * sz + i)) = some u ∧ RepD w ok d u) :
    ∃ newv : List Value, newv.length = news.length * sz ∧ (∀ q u, newv[q]? = some u → w.cell? (ad.add q) = some u) ∧ (∀ u ∈ newv, u.oneCell' = true) ∧
      ∀ j c, news[j]? = some c → c.length = sz ∧ ∀ i d, c[i]? = some d → ∃ u, newv[j * sz + i]? = some u ∧ RepD w ok d u := by
  have all : ∀ q, q < news.length * sz → ∃ u d, w.cell? (ad.add q) = some u ∧ RepD w ok d u := by
    intro q hq
    have hj : q / sz < news.length := (Nat.div_lt_iff_lt_mul hsz).2 hq
    have hi : q % sz < sz := Nat.mod_lt _ hsz
    have hcl := hl news[q / sz] (List.getElem_mem hj)
    obtain ⟨u, hu, hr⟩ := hc (q / sz) _ (List.getElem?_eq_getElem hj) (q % sz) _ (List.getElem?_eq_getElem (by omega))
    refine ⟨u, _, ?_, hr⟩
    rw [Nat.div_add_mod' q sz] at hu; exact hu
  refine ⟨(List.range (news.length * sz)).map fun q => (w.cell? (ad.add q)).getD undef, by simp, fun q u hq => ?_, fun u hu => ?_, fun j c hj => ⟨hl c (List.mem_of_getElem? hj), fun i d hi => ?_⟩⟩
  · have hlt : q < news.length * sz := by have := (List.getElem?_eq_some_iff.1 hq).1; simpa using this
    obtain ⟨v, d, hv, hr⟩ := all q hlt
    rw [List.getElem?_map, List.getElem?_range hlt] at hq
    simp only [Option.map_some, Option.some.injEq] at hq
    rw [hv] at hq ⊢; simp at hq; rw [hq]
  · obtain ⟨q, hq, rfl⟩ := List.mem_map.1 hu
    obtain ⟨v, d, hv, hr⟩ := all q (by simpa using hq)
    rw [hv]; exact hr.oneCell.1
  · obtain ⟨u, hu, hr⟩ := hc j c hj i d hi
    have hjl : j < news.length := (List.getElem?_eq_some_iff.1 hj).1
    have hil : i < sz := by have := (List.getElem?_eq_some_iff.1 hi).1; rw [hl c (List.mem_of_getElem? hj)] at this; exact this
    have hlt : j * sz + i < news.length * sz := by
      have : (j + 1) * sz ≤ news.length * sz := Nat.mul_le_mul_right _ hjl
      rw [Nat.add_mul, Nat.one_mul] at this; omega
    exact ⟨u, by rw [List.getElem?_map, List.getElem?_range hlt]; simp [hu], hr⟩

theorem grownBy_same (w : World) (row : Option Nat) : w.grownBy w row := ⟨rfl, rfl, rfl, Nat.le_refl _, fun _ _ _ => rfl⟩

theorem aAppend_sound (h : SRel E N A w0 m s a w) (T ty : TypeId) {x y : AV} {vx vy : Value} (hx : VRel w (okB A s.H m w) m s.H x vx) (hy : VRel w (okB A s.H m w) m s.H y vy)
    (ha : aAppend E T x y dst s k) : Res E N A w0 a dst k ((Builtin.append_ #[T, T] ty #[vx, vy]).run E.P w) := by
  unfold aAppend at ha
  split at ha
  · rename_i ti t hti
    have hd := desc_of hti
    split at ha
    · rename_i e he
      rw [he] at hd
      split at ha
      · rename_i ei news hei hnews
        cases hz : Nat.beq ei.sz 0 with
        | true => rw [hz] at ha; exact ha.elim
        | false =>
          rw [hz] at ha
          have hnz : 0 < ei.sz := Nat.pos_of_ne_zero fun e => by rw [e] at hz; cases hz
          simp only [cond_false] at ha
          obtain ⟨i0, z, hi, hs, hb, hzz, hzc⟩ := desc_bytes hei
          have hzsz : z.cells.size = ei.sz := by rw [hzc]; simp [(E.hΘ e ei hei).zlen]
          -- the run, whatever the row was
          have go : ∀ (κ n : Nat) (olds : List (List D)) (cells : List Value), ((vx = .slice none 0 0 ∧ n = 0) ∨ ∃ b full ob, vx = .slice (some ⟨b, 0, none⟩) n full ∧ s.H κ = some ob ∧ m κ = some (b, full)) →
              w.ownsRow w0.heap.size e ei.sz vx n cells → olds.length = n → (∀ j c, olds[j]? = some c → c.length = ei.sz ∧ ∀ i d, c[i]? = some d → ∃ u, cells[j * ei.sz + i]? = some u ∧ RepD w (okB A s.H m w) d u) →
              (news.all fun c => c.length == ei.sz) = true → (n + news.length) * ei.bytes ≤ 140737488355328 → n + news.length ≤ 140737488355328 →
              k (put (some t) (.ref κ 0 (n + news.length)) ((s.kill κ).setH κ (.ds e ei.sz (olds ++ news)))) → Res E N A w0 a (some t) k ((Builtin.append_ #[T, T] ty #[vx, vy]).run E.P w) := by
            intro κ n olds cells hvx hown hol holds hall hby hmx hk
            have hal : ∀ c ∈ news, c.length = ei.sz := fun c hc => by have := List.all_eq_true.1 hall c hc; simpa using this
            obtain ⟨ad, cp, rfl, hnone, hcell⟩ := news_rel h hy hnews hal
            cases ad with
            | none =>
              have hn0 := hnone rfl
              subst hn0
              have hrun : (Builtin.append_ #[T, T] ty #[vx, .slice none 0 cp]).run E.P w = .ok vx w := by
                rcases hvx with ⟨rfl, _⟩ | ⟨b, full, ob, rfl, h1, h2⟩
                · exact append_none_run hd hei ty none 0 0 cp (Nat.le_refl _)
                · refine append_none_run hd hei ty _ n full cp ?_
                  rcases hown.2 with ⟨h3, _⟩ | ⟨g, cap, cur, h3, _, _, h4, _⟩
                  · cases h3
                  · injection h3 with _ _ h3; omega
              obtain ⟨m', hS, hv⟩ := append_core (newv := []) h κ e ei.sz n olds [] hvx (by simpa using hown) (grownBy_same w _) (.inl rfl) hown.1 hol holds (fun j c hj => by simp at hj)
              exact ⟨vx, w, hrun, m', _, hS.put _ hv, hk⟩
            | some ad =>
              obtain ⟨newv, hl, hnv, h1, hrep⟩ := news_values (w := w) hnz hal ad (hcell ad rfl)
              obtain ⟨v', w1, hrun, hrow, hg, _, hat⟩ := run_append_own_at (P := E.P) w w0.heap.size T ty e i0 z ei.sz ei.bytes hd hi hzz hs hb hzsz hnz vx n cells hown ad news.length cp newv hl hnv h1 (by simp only [maxLen]; omega) hby h.below.size
              obtain ⟨m', hS, hv⟩ := append_core h κ e ei.sz n olds news hvx hrow hg hat hown.1 hol holds hrep
              exact ⟨v', w1, hrun, m', _, hS.put _ hv, hk⟩
          split at ha
          · rename_i o n
            cases hnr : notRef o y with
            | false => rw [hnr] at ha; exact ha.elim
            | true =>
              rw [hnr] at ha
              simp only [cond_true] at ha
              split at ha
              · rename_i e' sz els hH
                cases hbe : (Nat.beq e e' && Nat.beq sz ei.sz) with
                | false => rw [hbe] at ha; exact ha.elim
                | true =>
                  rw [hbe] at ha
                  simp only [Bool.and_eq_true] at hbe
                  have e1 : e = e' := Nat.eq_of_beq_eq_true hbe.1
                  have e2 : sz = ei.sz := Nat.eq_of_beq_eq_true hbe.2
                  subst e1; subst e2
                  simp only [cond_true] at ha
                  obtain ⟨⟨g1, g2, g3⟩, ha⟩ := ha
                  cases hx with
                  | ref _ _ _ e3 sz3 els3 b full cap hH3 hn hmo hcap hnc =>
                    rw [hH] at hH3
                    injection hH3 with hH3
                    injection hH3 with i1 i2 i3
                    subst i1; subst i3
                    have hcf := hcap rfl
                    subst hcf
                    obtain ⟨hmn, _⟩ | ⟨b', full', cur, hm', hbb, hcur, hlen, hmax, hszc, hcells⟩ := h.objs o _ hH
                    · rw [hmo] at hmn; cases hmn
                    · rw [hmo] at hm'
                      injection hm' with hm'
                      injection hm' with e1 e2
                      subst e1; subst e2
                      have hnl : n ≤ els.length := by omega
                      have hnsz : n * ei.sz ≤ cur.size := by rw [hszc]; exact Nat.mul_le_mul_right _ (by omega)
                      rw [Nat.zero_mul] at go ⊢
                      refine go o n (els.take n) (cur.toList.take (n * ei.sz)) (.inr ⟨b, cap, _, rfl, hH, hmo⟩) ⟨by simp; omega, .inr ⟨b, cap, cur, rfl, hbb, hcur, by omega, hmax, hszc, rfl⟩⟩ (by simp; omega) (fun j c hj => ?_) g1 g2 g3 ha
                      have hjn : j < n := by have := (List.getElem?_eq_some_iff.1 hj).1; simp at this; omega
                      rw [List.getElem?_take, if_pos hjn] at hj
                      obtain ⟨q1, q2⟩ := hcells j c hj
                      refine ⟨q1, fun i d hi => ?_⟩
                      obtain ⟨u, hu, hr⟩ := q2 i d hi
                      have hil : i < ei.sz := by have := (List.getElem?_eq_some_iff.1 hi).1; omega
                      have hlt : j * ei.sz + i < n * ei.sz := by
                        have : (j + 1) * ei.sz ≤ n * ei.sz := Nat.mul_le_mul_right _ hjn
                        rw [Nat.add_mul, Nat.one_mul] at this; omega
                      exact ⟨u, by rw [List.getElem?_take, if_pos hlt]; simpa using hu, hr⟩
                  | ref0 _ e3 sz3 hH3 hmo =>
                    rw [hH] at hH3
                    injection hH3 with hH3
                    injection hH3 with i1 i2 i3
                    subst i3
                    refine go o 0 [] [] (.inl ⟨rfl, rfl⟩) ⟨by simp, .inl ⟨rfl, rfl⟩⟩ rfl (fun j c hj => by simp at hj) g1 g2 g3 ?_
                    simpa using ha
              · exact ha.elim
          · obtain ⟨⟨g1, g2, g3⟩, ha⟩ := ha
            cases hx with
            | d _ _ hx => cases hx with
              | nil =>
                refine go t 0 [] [] (.inl ⟨rfl, rfl⟩) ⟨by simp, .inl ⟨rfl, rfl⟩⟩ rfl (fun j c hj => by simp at hj) g1 (by simpa using g2) (by simpa using g3) ?_
                simpa using ha
          · exact ha.elim
      · exact ha.elim
    · exact ha.elim
  · exact ha.elim
theorem aConv_sound (h : SRel E N A w0 m s a w) (S T : TypeId) {x : AV} {vx : Value} (hx : VRel w (okB A s.H m w) m s.H x vx)
    (ha : aConv E S T x dst s k) : Res E N A w0 a dst k ((Go.convert S T vx).run E.P w) := by
  unfold aConv at ha
  split at ha
  · rename_i si ti hS hT
    obtain ⟨us, hus, _⟩ := (E.hΘ S si hS).agg
    have hdT := (E.hΘ T ti hT).desc
    split at ha
    · rename_i kx kk n hd
      rw [hd] at hdT
      cases hx with
      | d _ _ hx => cases hx with
        | int =>
          refine Res.same h (v := .d (.int kx (kx.wrap n))) ?_ (.d _ _ (.int _ _)) ha
          simp [Go.convert, run_underlying hus, run_underlying hdT, Conv.intToInt]
    · rename_i kk n hd
      rw [hd] at hdT
      cases hx with
      | d _ _ hx => cases hx with
        | int =>
          refine Res.same h (v := .d (.flt (FloatKind.f64.nearest n))) (u := .float .f64 (FloatKind.f64.nearest n)) ?_ (.d _ _ ?_) ha
          · cases us <;> simp [Go.convert, run_underlying hus, run_underlying hdT, Conv.intToFloat]
          · have := RepD.flt (w := w) (ok := okB A s.H m w) (FloatKind.f64.nearest n)
            have hnear : isNan (FloatKind.f64.nearest n) = false := write_not_nan (.number (n < 0) n.natAbs 0) rfl
            rw [canon_num hnear] at this
            exact this
    · rename_i kx x hd
      rw [hd] at hdT
      obtain ⟨n, hn, ha⟩ := ha
      cases hx with
      | d _ _ hx => cases hx with
        | flt b =>
          have hb : isNan b = false := by
            cases hb : isNan b with
            | false => rfl
            | true =>
              exfalso
              rw [canon_nan hb] at hn
              have hno : ((FloatKind.decode .f64 nanC).toInt .zero) = none := by decide +kernel
              unfold floatToIntVal at hn
              rw [hno] at hn
              cases hn
          rw [canon_num hb] at hn
          exact Res.same h (v := .d (.int kx n)) (run_convert_float_int w S T .f64 kx b n (by simp [hus]) hdT hn) (.d _ _ (.int _ _)) ha
    · rename_i hd
      rw [hd] at hdT
      split at ha
      · rename_i e hse
        have hdS := desc_of hS
        rw [hse] at hdS
        split at ha
        · rename_i ei hei
          have hdE := desc_of hei
          split at ha
          · rename_i els hui hels
            rw [hui] at hdE
            obtain ⟨ns, rfl, ha⟩ := ha
            obtain ⟨ad, cp, rfl, hnone, hcell⟩ := news_rel h hx (sz := 1) hels (fun c hc => by obtain ⟨n, _, rfl⟩ := List.mem_map.1 hc; rfl)
            cases ad with
            | none =>
              have h0 : ns = [] := by simpa using hnone rfl
              subst h0
              refine Res.same h (v := .d (.str [])) (u := .string ByteArray.empty) ?_ (.d _ _ (.str ByteArray.empty)) ha
              exact run_convert_bytes_nil w S e hdS hdE _ _ T hdT
            | some ad =>
              refine Res.same h (v := .d (.str (ns.map fun n => UInt8.ofNat n.toNat))) (u := .string (strOfNums ns)) ?_ (.d _ _ ?_) ha
              · obtain ⟨b, off, spot⟩ := ad
                have hcells : ∀ i, i < ns.length → w.cell? ((⟨b, off, spot⟩ : Addr).add i) = some (.int .u8 (ns.getD i 0)) := by
                  intro i hi
                  obtain ⟨u, hu, hr⟩ := hcell _ rfl i [D.int .u8 ns[i]] (by simp [hi]) 0 _ rfl
                  cases hr
                  rw [Nat.mul_one, Nat.add_zero] at hu
                  simpa [List.getD, hi] using hu
                have hl : (loadCells ⟨b, off, spot⟩ ns.length).run E.P w = .ok (ns.map (Value.int .u8)).toArray w := by
                  have := run_loadCells_list (P := E.P) w ⟨b, off, spot⟩ (ns.map (Value.int .u8)) (fun j v hj => by
                    have hjl : j < ns.length := by have := (List.getElem?_eq_some_iff.1 hj).1; simpa using this
                    rw [hcells j hjl]
                    rw [List.getElem?_map, List.getElem?_eq_getElem hjl] at hj
                    simp only [Option.map_some, Option.some.injEq] at hj
                    rw [← hj]; simp [List.getD, hjl])
                  simpa using this
                rw [List.length_map, run_convert_bytes_string w S T e _ _ _ hdS hdE hdT, run_bytesToString w _ _ _ ns hl, foldl_push_bytes]
                simp [strOfNums, ByteArray.empty, ByteArray.emptyWithCapacity]
                rfl
              · exact .str (strOfNums ns)
          · exact ha.elim
        · exact ha.elim
      · exact ha.elim
    · exact ha.elim
  · exact ha.elim
end
end Ai
