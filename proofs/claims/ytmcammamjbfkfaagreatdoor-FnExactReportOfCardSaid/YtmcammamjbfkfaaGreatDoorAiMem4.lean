import Derived.Test.YtmcammamjbfkfaaGreatDoorAiMem3
set_option maxHeartbeats 1000000
set_option linter.unusedVariables false
set_option linter.unusedSimpArgs false
namespace Ai
open Go Go.RowKit
section
variable {E : Env} {N : Nat} {A : Nat → Prop} {w0 w w' : World} {m m' : Own} {s s' : St} {a : Act} {dst : Option Tmp} {k : St → Prop}

/-! ### composites -/
theorem foldl_set (off : Nat) : ∀ (us : List Value) (j0 : Nat) (cells : Array Value), off + j0 + us.length ≤ cells.size →
    ((us.zipIdx j0).foldl (fun (cs : Array Value) (p : Value × Nat) => cs.setIfInBounds (off + p.2) p.1) cells).toList = splice cells.toList (off + j0) us
  | [], j0, cells, h => by
    simp only [List.zipIdx_nil, List.foldl_nil]
    apply List.ext_getElem?
    intro i
    rw [splice_get _ _ _ _ (by simpa using h)]
    rw [if_neg (by simp)]
  | u :: us, j0, cells, h => by
    simp only [List.zipIdx_cons, List.foldl_cons]
    have ih := foldl_set off us (j0 + 1) (cells.setIfInBounds (off + j0) u) (by simp at h ⊢; omega)
    rw [show off + (j0 + 1) = off + j0 + 1 from by omega] at ih
    rw [ih]
    apply List.ext_getElem?
    intro i
    rw [splice_get _ _ _ _ (by simp at h ⊢; omega), splice_get _ _ _ _ (by simpa using h)]
    simp only [Array.getElem?_toList, Array.getElem?_setIfInBounds, List.length_cons]
    by_cases h1 : i = off + j0
    · subst h1
      have hlt : off + j0 < cells.size := by simp at h; omega
      rw [if_neg (by omega), if_pos (by omega)]
      simp [hlt]
    · by_cases h2 : off + j0 + 1 ≤ i ∧ i < off + j0 + 1 + us.length
      · rw [if_pos h2, if_pos (by omega)]
        rw [show i - (off + j0) = (i - (off + j0 + 1)) + 1 from by omega]
        simp
      · rw [if_neg h2, if_neg (by omega)]
        rw [if_neg (by omega)]

/-- One part more. -/
theorem fill_step (place : Nat → Option (Nat × Nat)) (cells : Array Value) (i : Nat) (v : Value) (rest : List (Nat × Value)) {off size : Nat} (hp : place i = some (off, size)) (h1 : v.cells.size = size) (h2 : off + v.cells.size ≤ cells.size) :
    ∃ cells', Instr.fill place cells ((i, v) :: rest) = Instr.fill place cells' rest ∧ cells'.toList = splice cells.toList off v.cells.toList := by
  refine ⟨_, ?_, foldl_set off v.cells.toList 0 cells (by simpa using h2)⟩
  simp only [Instr.fill, hp]
  have : ¬ (v.cells.size ≠ size || decide (off + v.cells.size > cells.size)) = true := by simp; omega
  rw [if_neg this]
  congr 1
  rw [← Array.foldl_toList, Array.toList_zipIdx]

theorem fillA_rel {ok : Nat → Prop} {H : Nat → Option Ob} {fs : List (Nat × TypeId)} (place : Nat → Option (Nat × Nat)) (hplace : ∀ i off ft fi, fs[i]? = some (off, ft) → E.Θ ft = some fi → place i = some (off, fi.sz)) :
    ∀ (parts : List (Nat × AV)) (vparts : List (Nat × Value)) (cells : List AV) (us : Array Value) (out : List AV), parts.length = vparts.length →
      (∀ (q : Nat) (i : Nat) (x : AV), parts[q]? = some (i, x) → ∃ v, vparts[q]? = some (i, v) ∧ VRel w ok m H x v) →
      cells.length = us.size → (∀ (i : Nat) (c : AV) (u : Value), cells[i]? = some c → us[i]? = some u → VRel w ok m H c u) → fillA E fs cells parts = some out →
      ∃ us', Instr.fill place us vparts = some us' ∧ out.length = us'.size ∧ ∀ (i : Nat) (c : AV) (u : Value), out[i]? = some c → us'[i]? = some u → VRel w ok m H c u
  | [], vparts, cells, us, out, hl, hp, hcl, hc, hf => by
    simp only [List.length_nil] at hl
    have : vparts = [] := List.eq_nil_of_length_eq_zero hl.symm
    subst this
    simp only [fillA, Option.some.injEq] at hf
    subst hf
    exact ⟨us, rfl, hcl, hc⟩
  | (i, x) :: rest, vparts, cells, us, out, hl, hp, hcl, hc, hf => by
    obtain ⟨v, hv, hxv⟩ := hp 0 i x rfl
    cases vparts with
    | nil => simp at hv
    | cons p vrest =>
      simp only [List.getElem?_cons_zero, Option.some.injEq] at hv
      subst hv
      simp only [fillA] at hf
      split at hf
      · rename_i off ft hfs
        split at hf
        · rename_i fi cs hfi hcs
          obtain ⟨hcsl, h1, hcr⟩ := cellsOf_rel hxv hcs
          cases hb : (Nat.beq cs.length fi.sz && Nat.ble (off + cs.length) cells.length) with
          | false => rw [hb] at hf; cases hf
          | true =>
            rw [hb] at hf
            simp only [Bool.and_eq_true] at hb
            have e1 : cs.length = fi.sz := Nat.eq_of_beq_eq_true hb.1
            have e2 : off + cs.length ≤ cells.length := Nat.le_of_ble_eq_true hb.2
            simp only [cond_true] at hf
            obtain ⟨us1, hus1, hus2⟩ := fill_step place us i v vrest (hplace i off ft fi hfs hfi) (by omega) (by omega)
            rw [hus1]
            refine fillA_rel place hplace rest vrest (splice cells off cs) us1 out (by simpa using hl) (fun q i2 x2 hq => by have := hp (q + 1) i2 x2 (by simpa using hq); simpa using this) ?_ (fun i2 c u hc2 hu => ?_) hf
            · rw [splice_length _ _ _ e2, hcl]
              have := congrArg List.length hus2
              rw [splice_length _ _ _ (by simp; omega)] at this
              simpa using this.symm
            · have hu2 : us1.toList[i2]? = some u := by simpa using hu
              rw [hus2, splice_get _ _ _ _ (by simp; omega)] at hu2
              rw [splice_get _ _ _ _ e2] at hc2
              by_cases hin : off ≤ i2 ∧ i2 < off + cs.length
              · rw [if_pos hin] at hc2
                rw [if_pos (by simp; omega)] at hu2
                exact hcr _ c u hc2 (by simpa using hu2)
              · rw [if_neg hin] at hc2
                rw [if_neg (by simp; omega)] at hu2
                exact hc i2 c u hc2 (by simpa using hu2)
        · cases hf
      · cases hf

theorem places_run (L : List Field) (h : ∀ f ∈ L, (E.Θ f.type).isSome = true) : ∃ pl : List (Nat × Nat), L.mapM (fun f => (E.P.info? f.type).map fun i => (f.offset, i.size)) = some pl ∧
    ∀ (i : Nat) (f : Field) (fi : TI), L[i]? = some f → E.Θ f.type = some fi → pl[i]? = some (f.offset, fi.sz) := by
  induction L with
  | nil => exact ⟨[], rfl, by simp⟩
  | cons f L ih =>
    obtain ⟨pl, h1, h2⟩ := ih (fun g hg => h g (by simp [hg]))
    obtain ⟨fi, hfi⟩ := Option.isSome_iff_exists.1 (h f (by simp))
    obtain ⟨i0, z, hi, hs, _⟩ := desc_bytes hfi
    refine ⟨(f.offset, i0.size) :: pl, by simp [List.mapM_cons, hi, h1], fun i g gi hg hgi => ?_⟩
    cases i with
    | zero =>
      simp at hg; subst hg
      rw [hfi] at hgi; injection hgi with hgi; subst hgi
      simp [hs]
    | succ i => simp at hg ⊢; exact h2 i g gi hg hgi

theorem aBuild_sound (h : SRel E N A w0 m s a w) (T : TypeId) {parts : List (Nat × AV)} {vparts : Array (Nat × Value)} (hl : parts.length = vparts.size)
    (hp : ∀ (q : Nat) (i : Nat) (x : AV), parts[q]? = some (i, x) → ∃ v, vparts[q]? = some (i, v) ∧ VRel w (okB A s.H m w) m s.H x v)
    (ha : aBuild E T parts dst s k) : Res E N A w0 a dst k ((Instr.build T vparts).run E.P w) := by
  unfold aBuild at ha
  split at ha
  · rename_i ti hti
    have hd := desc_of hti
    split at ha
    · rename_i fs hfs
      rw [hfs] at hd
      obtain ⟨F, hF, hFf⟩ := hd
      cases hall : fs.all (fun p => (E.Θ p.2).isSome) with
      | false => rw [hall] at ha; exact ha.elim
      | true =>
        rw [hall] at ha
        simp only [cond_true] at ha
        split at ha
        · rename_i cs hcs
          obtain ⟨i0, z, hi, hsz, hby, hz, hzc⟩ := desc_bytes hti
          obtain ⟨pl, hpl, hplg⟩ := places_run (E := E) F.toList (fun f hf => by
            have : (f.offset, f.type) ∈ fs := by rw [← hFf]; exact List.mem_map.2 ⟨f, hf, rfl⟩
            exact List.all_eq_true.1 hall _ this)
          obtain ⟨us', h1, h2, h3⟩ := fillA_rel (E := E) (w := w) (m := m) (ok := okB A s.H m w) (H := s.H) (fs := fs) (fun i => pl.toArray[i]?) (fun i off ft fi hfi hΘ => by
              rw [← hFf, List.getElem?_map, Option.map_eq_some_iff] at hfi
              obtain ⟨fl, hfl, he⟩ := hfi
              simp only [Prod.mk.injEq] at he
              obtain ⟨rfl, rfl⟩ := he
              simpa using hplg i fl fi hfl hΘ)
            parts vparts.toList (ti.zero.map .d) z.cells cs (by simpa using hl) (fun q i x hq => by simpa using hp q i x hq) (by rw [hzc]; simp) (fun i c u hc hu => by
              rw [hzc] at hu
              simp only [List.getElem?_map, Option.map_eq_some_iff] at hc
              obtain ⟨d, hd', rfl⟩ := hc
              simp only [List.getElem?_toArray, List.getElem?_map, hd', Option.map_some, Option.some.injEq] at hu
              subst hu
              exact .d _ _ (zero_rep hti (List.mem_of_getElem? hd'))) hcs
          refine Res.same h (u := .agg us') (run_build w T vparts us' ?_) (.agg cs us' h2 h3) ha
          simp only [Program.built, hi, hF, hz, hpl]
          exact h1
        · exact ha.elim
    · exact ha.elim
  · exact ha.elim

/-! ### what is handed on by value -/
theorem fz1_rep (h : SRel E N A w0 m s a w) {ok : Nat → Prop} (hok : ∀ b, okB A s.H m w b → ok b) {x : AV} {v : Value} (hown : ∀ o off n, x = .ref o off n → ∀ p, m o = some p → ok p.1)
    (hx : VRel w (okB A s.H m w) m s.H x v) {d : D} (hd : fz1 s x = some d) : RepD w ok d v := by
  have hm : ∀ b, okB A s.H m w b → ok b ∧ w.heap[b]? = w.heap[b]? := fun b hb => ⟨hok b hb, rfl⟩
  cases hx with
  | d x v hx =>
    cases hx with
    | nil => simp only [fz1, Option.some.injEq] at hd; subst hd; exact .sl0 _ _
    | bool b => simp only [fz1, Option.some.injEq] at hd; subst hd; exact .bool b
    | int kk n => simp only [fz1, Option.some.injEq] at hd; subst hd; exact .int kk n
    | flt b => simp only [fz1, Option.some.injEq] at hd; subst hd; exact .flt b
    | str b => simp only [fz1, Option.some.injEq] at hd; subst hd; exact .str b
    | sl0 ad cap => simp only [fz1, Option.some.injEq] at hd; subst hd; exact .sl0 _ _
    | sl els sz b off cap us h1 h2 h3 h4 => simp only [fz1, Option.some.injEq] at hd; subst hd; exact (RepD.sl els sz b off cap us h1 h2 h3 h4).mono hm
  | ref o off n e sz els b full cap hH hn hmo hcap hnc =>
    simp only [fz1, hH, Option.some.injEq] at hd
    subst hd
    obtain ⟨hmn, _⟩ | ⟨b', full', cur, hm', hbb, hcur, hlen, hmax, hsz, hcells⟩ := h.objs o _ hH
    · rw [hmo] at hmn; cases hmn
    · rw [hmo] at hm'
      injection hm' with hm'
      injection hm' with e1 e2
      subst e1; subst e2
      have hlen2 : ((els.drop off).take n).length = n := by simp; omega
      have hget : ∀ (j : Nat) (c : List D), ((els.drop off).take n)[j]? = some c → els[off + j]? = some c := by
        intro j c hj
        have hj2 : j < n := by have := (List.getElem?_eq_some_iff.1 hj).1; omega
        rw [List.getElem?_take, if_pos hj2, List.getElem?_drop] at hj
        exact hj
      have hcell : ∀ (j : Nat) (c : List D), ((els.drop off).take n)[j]? = some c → ∀ (q : Nat) (d : D), c[q]? = some d → ∃ u, w.cell? ⟨b, off * sz + (j * sz + q), none⟩ = some u ∧ RepD w ok d u := by
        intro j c hj q d hq
        obtain ⟨u, hu, hr⟩ := (hcells _ c (hget j c hj)).2 q d hq
        refine ⟨u, ?_, hr.mono hm⟩
        rw [Nat.add_mul] at hu
        simp only [World.cell?, hcur]
        rw [← Nat.add_assoc]; simpa using hu
      by_cases hn0 : n = 0
      · subst hn0; rw [List.take_zero]; exact .sl0 _ _
      · have := RepD.sl (w := w) (ok := ok) ((els.drop off).take n) sz b (off * sz) cap (fun q => (w.cell? ⟨b, off * sz + q, none⟩).getD undef) (hown o off n rfl _ hmo) (by omega)
          (fun j c hj => ⟨(hcells _ c (hget j c hj)).1, fun q d hq => by
            obtain ⟨u, hu, hr⟩ := hcell j c hj q d hq
            rw [hu]; rfl⟩)
          (fun j c hj q d hq => by
            obtain ⟨u, hu, hr⟩ := hcell j c hj q d hq
            rw [hu]; exact hr)
        rw [hlen2] at this; exact this
  | ref0 o e sz hH hmo =>
    simp only [fz1, hH, Option.some.injEq, List.drop_nil, List.take_nil] at hd
    subst hd
    exact .sl0 _ _
  | _ => simp [fz1] at hd

theorem new_ds (h : SRel E N A w0 m s a w) (κ full : Nat) (e : TypeId) (sz : Nat) {els : List (List D)} {cur : Array Value} (hlen : els.length ≤ full) (hmax : full ≤ maxLen) (hsz : cur.size = full * sz)
    (hc : ∀ j c, els[j]? = some c → c.length = sz ∧ ∀ i d, c[i]? = some d → ∃ u, cur[j * sz + i]? = some u ∧ RepD w (okB A s.H m w) d u) :
    SRel E N A w0 (updM m κ (some (w.heap.size, full))) (s.new κ (.ds e sz els)) a (w.alloc (.cells cur e)) :=
  h.new κ full (.ds e sz els) _ (.inr ⟨w.heap.size, full, cur, updM_self _ _ _, h.below.size, heap_alloc_new w _, hlen, hmax, hsz, fun j c hj => ⟨(hc j c hj).1, fun i d hi =>
    let ⟨u, hu, hr⟩ := (hc j c hj).2 i d hi
    ⟨u, hu, hr.mono (okB_new h κ full _ _)⟩⟩⟩)

theorem killAll_rel : ∀ (ks : List Nat) {s : St}, SRel E N A w0 m s a w → SRel E N A w0 m (killAll ks s) a w
  | [], s, h => h
  | κ :: ks, s, h => killAll_rel ks (h.kill κ)
theorem kill_H (κ o : Nat) (s : St) : (s.kill κ).H o ≠ none → s.H o ≠ none ∧ o ≠ κ := by
  intro ho
  by_cases hne : o = κ
  · subst hne; simp [St.kill, nbeq_self] at ho
  · refine ⟨fun hh => ho ?_, hne⟩
    simp [St.kill, nbeq_ne hne, hh]
theorem killAll_H : ∀ (ks : List Nat) (o : Nat) (s : St), (killAll ks s).H o ≠ none → s.H o ≠ none ∧ o ∉ ks
  | [], o, s, h => ⟨h, by simp⟩
  | κ :: ks, o, s, h => by
    obtain ⟨h1, h2⟩ := killAll_H ks o (s.kill κ) h
    obtain ⟨h3, h4⟩ := kill_H κ o s h1
    exact ⟨h3, by simp [h4, h2]⟩

theorem fzk_rep (h : SRel E N A w0 m s a w) {ok : Nat → Prop} (hok : ∀ b, okB A s.H m w b → ok b) : ∀ (cs : List AV) (xs : List D) (ks : List Nat), fzk s cs = some (xs, ks) → (∀ o ∈ ks, ∀ p, m o = some p → ok p.1) →
    xs.length = cs.length ∧ ∀ (i : Nat) (c : AV) (x : D) (u : Value), cs[i]? = some c → xs[i]? = some x → VRel w (okB A s.H m w) m s.H c u → RepD w ok x u
  | [], xs, ks, hf, ho => by
    simp only [fzk, Option.some.injEq, Prod.mk.injEq] at hf
    obtain ⟨rfl, rfl⟩ := hf
    simp
  | v :: vs, xs, ks, hf, ho => by
    simp only [fzk] at hf
    split at hf
    · rename_i ys kys hr
      split at hf
      · rename_i x
        simp only [Option.some.injEq, Prod.mk.injEq] at hf
        obtain ⟨rfl, rfl⟩ := hf
        obtain ⟨h1, h2⟩ := fzk_rep h hok vs ys kys hr ho
        refine ⟨by simp [h1], fun i c y u hc hy hv => ?_⟩
        cases i with
        | zero =>
          simp at hc hy
          subst hc; subst hy
          cases hv with
          | d _ _ hd => exact hd.mono (fun b hb => ⟨hok b hb, rfl⟩)
        | succ i => exact h2 i c y u (by simpa using hc) (by simpa using hy) hv
      · rename_i o off n
        split at hf
        · rename_i x hx
          simp only [Option.some.injEq, Prod.mk.injEq] at hf
          obtain ⟨rfl, rfl⟩ := hf
          obtain ⟨h1, h2⟩ := fzk_rep h hok vs ys kys hr (fun o' ho' => ho o' (by simp [ho']))
          refine ⟨by simp [h1], fun i c y u hc hy hv => ?_⟩
          cases i with
          | zero =>
            simp at hc hy
            subst hc; subst hy
            exact fz1_rep h hok (fun o' off' n' he p hp => by cases he; exact ho o (by simp) p hp) hv hx
          | succ i => exact h2 i c y u (by simpa using hc) (by simpa using hy) hv
        · cases hf
      · cases hf
    · cases hf

theorem fzkE_rep (h : SRel E N A w0 m s a w) {ok : Nat → Prop} (hok : ∀ b, okB A s.H m w b → ok b) : ∀ (cs : List (List AV)) (xs : List (List D)) (ks : List Nat), fzkE s cs = some (xs, ks) → (∀ o ∈ ks, ∀ p, m o = some p → ok p.1) →
    xs.length = cs.length ∧ ∀ (j : Nat) (c : List AV) (x : List D), cs[j]? = some c → xs[j]? = some x → x.length = c.length ∧ ∀ (i : Nat) (q : AV) (y : D) (u : Value), c[i]? = some q → x[i]? = some y → VRel w (okB A s.H m w) m s.H q u → RepD w ok y u
  | [], xs, ks, hf, ho => by
    simp only [fzkE, Option.some.injEq, Prod.mk.injEq] at hf
    obtain ⟨rfl, rfl⟩ := hf
    simp
  | v :: vs, xs, ks, hf, ho => by
    simp only [fzkE] at hf
    split at hf
    · rename_i x1 k1 ys kys h1 h2
      simp only [Option.some.injEq, Prod.mk.injEq] at hf
      obtain ⟨rfl, rfl⟩ := hf
      have r1 := fzk_rep h hok v x1 k1 h1 (fun o ho' => ho o (by simp [ho']))
      have r2 := fzkE_rep h hok vs ys kys h2 (fun o ho' => ho o (by simp [ho']))
      refine ⟨by simp [r2.1], fun j c x hc hx => ?_⟩
      cases j with
      | zero => simp at hc hx; subst hc; subst hx; exact r1
      | succ j => exact r2.2 j c x (by simpa using hc) (by simpa using hx)
    · cases hf

end
end Ai
