import Derived.Test.YtmcammamjbfkfaaGreatDoorAiMem4
set_option maxHeartbeats 1000000
set_option linter.unusedVariables false
set_option linter.unusedSimpArgs false
namespace Ai
open Go Go.RowKit
section
variable {E : Env} {N : Nat} {A : Nat → Prop} {w0 w w' : World} {m m' : Own} {s s' : St} {a : Act} {dst : Option Tmp} {k : St → Prop}

/-- The parts of a row are filled in. -/
theorem fillE_rel {ok : Nat → Prop} {H : Nat → Option Ob} {ei : TI} : ∀ (parts : List (Nat × AV)) (vparts : List (Nat × Value)) (els out : List (List AV)) (us : Array Value), parts.length = vparts.length →
    (∀ (q : Nat) (i : Nat) (x : AV), parts[q]? = some (i, x) → ∃ v, vparts[q]? = some (i, v) ∧ VRel w ok m H x v) →
    us.size = els.length * ei.sz → (∀ (j : Nat) (c : List AV), els[j]? = some c → c.length = ei.sz ∧ ∀ (i : Nat) (q : AV), c[i]? = some q → ∃ u, us[j * ei.sz + i]? = some u ∧ VRel w ok m H q u) →
    fillE ei els parts = some out →
    ∃ us', Instr.fill (fun i => some (i * ei.sz, ei.sz)) us vparts = some us' ∧ us'.size = us.size ∧ out.length = els.length ∧ ∀ (j : Nat) (c : List AV), out[j]? = some c → c.length = ei.sz ∧ ∀ (i : Nat) (q : AV), c[i]? = some q → ∃ u, us'[j * ei.sz + i]? = some u ∧ VRel w ok m H q u
  | [], vparts, els, out, us, hl, hp, hsz, hc, hf => by
    simp only [List.length_nil] at hl
    have : vparts = [] := List.eq_nil_of_length_eq_zero hl.symm
    subst this
    simp only [fillE, Option.some.injEq] at hf
    subst hf
    exact ⟨us, rfl, rfl, rfl, hc⟩
  | (i, x) :: rest, vparts, els, out, us, hl, hp, hsz, hc, hf => by
    obtain ⟨v, hv, hxv⟩ := hp 0 i x rfl
    cases vparts with
    | nil => simp at hv
    | cons p vrest =>
      simp only [List.getElem?_cons_zero, Option.some.injEq] at hv
      subst hv
      simp only [fillE] at hf
      split at hf
      · rename_i cs hcs
        obtain ⟨hcsl, h1, hcr⟩ := cellsOf_rel hxv hcs
        cases hb : (Nat.beq cs.length ei.sz && Nat.blt i els.length) with
        | false => rw [hb] at hf; cases hf
        | true =>
          rw [hb] at hf
          simp only [Bool.and_eq_true] at hb
          have e1 : cs.length = ei.sz := Nat.eq_of_beq_eq_true hb.1
          have e2 : i < els.length := by simpa [Nat.blt_eq] using hb.2
          simp only [cond_true] at hf
          have hfit : i * ei.sz + v.cells.size ≤ us.size := by
            have : (i + 1) * ei.sz ≤ els.length * ei.sz := Nat.mul_le_mul_right _ e2
            rw [Nat.add_mul, Nat.one_mul] at this; omega
          obtain ⟨us1, hus1, hus2⟩ := fill_step (fun i => some (i * ei.sz, ei.sz)) us i v vrest rfl (by omega) hfit
          rw [hus1]
          have hsz1 : us1.size = us.size := by
            have := congrArg List.length hus2
            rw [splice_length _ _ _ (by simpa using hfit)] at this
            simpa using this
          obtain ⟨us', g1, g2, g3, g4⟩ := fillE_rel rest vrest (els.set i cs) out us1 (by simpa using hl) (fun q i2 x2 hq => by have := hp (q + 1) i2 x2 (by simpa using hq); simpa using this) (by rw [hsz1, hsz]; simp) (fun j c hj => by
            have hg : ∀ q : Nat, us1[q]? = if i * ei.sz ≤ q ∧ q < i * ei.sz + v.cells.toList.length then v.cells.toList[q - i * ei.sz]? else us.toList[q]? := by
              intro q
              have : us1[q]? = us1.toList[q]? := by simp
              rw [this, hus2, splice_get _ _ _ _ (by simpa using hfit)]
            by_cases hij : j = i
            · subst hij
              rw [List.getElem?_set] at hj
              simp only [if_true, e2] at hj
              injection hj with hj; subst hj
              refine ⟨e1, fun q y hy => ?_⟩
              have hq : q < cs.length := (List.getElem?_eq_some_iff.1 hy).1
              have hq2 : q < v.cells.size := by omega
              refine ⟨v.cells[q], ?_, hcr q y _ hy (Array.getElem?_eq_getElem hq2)⟩
              rw [hg, if_pos (by simp; omega)]
              rw [show j * ei.sz + q - j * ei.sz = q from by omega]
              simp [hq2]
            · rw [List.getElem?_set, if_neg (Ne.symm hij)] at hj
              obtain ⟨hcl, hcc⟩ := hc j c hj
              refine ⟨hcl, fun q y hy => ?_⟩
              obtain ⟨u, hu, hr⟩ := hcc q y hy
              refine ⟨u, ?_, hr⟩
              have hq : q < ei.sz := by have := (List.getElem?_eq_some_iff.1 hy).1; omega
              rw [hg, if_neg ?_]
              · simpa using hu
              · simp only [Array.length_toList]
                rcases Nat.lt_or_gt_of_ne hij with hlt | hgt
                · have : (j + 1) * ei.sz ≤ i * ei.sz := Nat.mul_le_mul_right _ hlt
                  rw [Nat.add_mul, Nat.one_mul] at this; omega
                · have : (i + 1) * ei.sz ≤ j * ei.sz := Nat.mul_le_mul_right _ hgt
                  rw [Nat.add_mul, Nat.one_mul] at this; omega) hf
          exact ⟨us', g1, by omega, by simpa using g3, g4⟩
      · cases hf

theorem fzk_live : ∀ (cs : List AV) (xs : List D) (ks : List Nat), fzk s cs = some (xs, ks) → ∀ o ∈ ks, s.H o ≠ none
  | [], xs, ks, hf => by
    simp only [fzk, Option.some.injEq, Prod.mk.injEq] at hf
    obtain ⟨rfl, rfl⟩ := hf
    simp
  | v :: vs, xs, ks, hf => by
    simp only [fzk] at hf
    split at hf
    · rename_i ys kys hr
      split at hf
      · simp only [Option.some.injEq, Prod.mk.injEq] at hf
        obtain ⟨rfl, rfl⟩ := hf
        exact fzk_live vs ys _ hr
      · rename_i o off n
        split at hf
        · rename_i x hx
          simp only [Option.some.injEq, Prod.mk.injEq] at hf
          obtain ⟨rfl, rfl⟩ := hf
          intro o' ho'
          simp only [List.mem_cons] at ho'
          rcases ho' with rfl | ho'
          · intro hn; simp [fz1, hn] at hx
          · exact fzk_live vs ys kys hr o' ho'
        · cases hf
      · cases hf
    · cases hf
theorem fzkE_live : ∀ (ks : List Nat) (cs : List (List AV)) (xs : List (List D)), fzkE s cs = some (xs, ks) → ∀ o ∈ ks, s.H o ≠ none
  | ks, [], xs, hf => by
    simp only [fzkE, Option.some.injEq, Prod.mk.injEq] at hf
    obtain ⟨rfl, rfl⟩ := hf
    simp
  | ks, v :: vs, xs, hf => by
    simp only [fzkE] at hf
    split at hf
    · rename_i x1 k1 ys kys h1 h2
      simp only [Option.some.injEq, Prod.mk.injEq] at hf
      obtain ⟨rfl, rfl⟩ := hf
      intro o ho
      rcases List.mem_append.1 ho with ho | ho
      · exact fzk_live v x1 k1 h1 o ho
      · exact fzkE_live kys vs ys h2 o ho
    · cases hf

theorem aBuildSlice_sound (h : SRel E N A w0 m s a w) (T : TypeId) (len : Nat) {parts : List (Nat × AV)} {vparts : Array (Nat × Value)} (hl : parts.length = vparts.size)
    (hp : ∀ (q : Nat) (i : Nat) (x : AV), parts[q]? = some (i, x) → ∃ v, vparts[q]? = some (i, v) ∧ VRel w (okB A s.H m w) m s.H x v)
    (ha : aBuildSlice E T len parts dst s k) : Res E N A w0 a dst k ((Instr.buildSlice T len vparts).run E.P w) := by
  unfold aBuildSlice at ha
  split at ha
  · rename_i ti t hti
    have hd := desc_of hti
    split at ha
    · rename_i e he
      rw [he] at hd
      split at ha
      · rename_i ei hei
        cases hb : (Nat.beq ei.sz 0 || Nat.blt 4096 (len * ei.sz)) with
        | true => rw [hb] at ha; exact ha.elim
        | false =>
          rw [hb] at ha
          simp only [Bool.or_eq_false_iff] at hb
          have hnz : ei.sz ≠ 0 := fun e => by rw [e] at hb; exact absurd hb.1 (by simp [Nat.beq])
          have hbig : len * ei.sz ≤ 4096 := by
            rcases Nat.lt_or_ge 4096 (len * ei.sz) with h1 | h1
            · have : Nat.blt 4096 (len * ei.sz) = true := by simpa [Nat.blt_eq] using h1
              rw [this] at hb; exact absurd hb.2 (by simp)
            · exact h1
          simp only [cond_false] at ha
          split at ha
          · rename_i els hels
            split at ha
            · rename_i xs ks hks
              obtain ⟨z, hz, hzc⟩ := zero_run hei w
              have hs := sz_run hei w
              have hzl := (E.hΘ e ei hei).zlen
              have hzsz : z.cells.size = ei.sz := by rw [hzc]; simp [hzl]
              -- the zeros
              let us0 : Array Value := (Array.range (len * ei.sz)).map (z.cells[· % z.cells.size]!)
              have hus0 : us0.size = len * ei.sz := by simp [us0]
              have hz0 : ∀ (j : Nat) (c : List AV), (List.replicate len (ei.zero.map AV.d))[j]? = some c → c.length = ei.sz ∧ ∀ (i : Nat) (q : AV), c[i]? = some q → ∃ u, us0[j * ei.sz + i]? = some u ∧ VRel w (okB A s.H m w) m s.H q u := by
                intro j c hj
                rw [List.getElem?_replicate] at hj
                split at hj
                · rename_i hjn
                  injection hj with hj; subst hj
                  refine ⟨by simp [hzl], fun i q hq => ?_⟩
                  simp only [List.getElem?_map, Option.map_eq_some_iff] at hq
                  obtain ⟨d, hd', rfl⟩ := hq
                  have hi : i < ei.sz := by have := (List.getElem?_eq_some_iff.1 hd').1; omega
                  refine ⟨rawD d, ?_, .d _ _ (zero_rep hei (List.mem_of_getElem? hd'))⟩
                  have hlt : j * ei.sz + i < len * ei.sz := by
                    have : (j + 1) * ei.sz ≤ len * ei.sz := Nat.mul_le_mul_right _ hjn
                    rw [Nat.add_mul, Nat.one_mul] at this; omega
                  have hmod : (j * ei.sz + i) % z.cells.size = i := by rw [hzsz, Nat.mul_comm, Nat.mul_add_mod]; exact Nat.mod_eq_of_lt hi
                  have hg : z.cells[i]? = some (rawD d) := by rw [hzc]; simp [hd']
                  have hi3 : i < z.cells.size := by omega
                  simp only [us0, Array.getElem?_map, Array.getElem?_range, if_pos hlt, Option.map_some, hmod]
                  congr 1
                  rw [getElem!_pos z.cells i hi3]
                  rw [Array.getElem?_eq_getElem hi3] at hg
                  injection hg
                · cases hj
              obtain ⟨us', g1, g2, g3, g4⟩ := fillE_rel (w := w) (m := m) (ok := okB A s.H m w) (H := s.H) parts vparts.toList (List.replicate len (ei.zero.map .d)) els us0 (by simpa using hl) (fun q i x hq => by simpa using hp q i x hq) (by simp [hus0]) hz0 hels
              have hrun : (Instr.buildSlice T len vparts).run E.P w = .ok (.slice (some ⟨w.heap.size, 0, none⟩) len len) (w.alloc (.cells us' e)) := by
                have hne : ¬ (len * ei.sz > 2 ^ 24) := by omega
                by_cases hl0 : len * ei.sz = 0
                · have hus00 : us0 = (Array.range (len * ei.sz)).map ((#[] : Array Value)[· % (#[] : Array Value).size]!) := by
                    simp only [us0, hl0]; simp
                  rw [hus00] at g1
                  simp only [Instr.buildSlice, Sem.run_bind, run_underlying hd, Result.andThen_ok, hs, if_neg hne, if_pos hl0, Sem.run_pure, Sem.run_ite, g1, newRow_run]
                · simp only [Instr.buildSlice, Sem.run_bind, run_underlying hd, Result.andThen_ok, hs, if_neg hne, if_neg hl0, Sem.run_pure, Sem.run_ite, hz]
                  rw [show Instr.fill (fun i => some (i * ei.sz, ei.sz)) ((Array.range (len * ei.sz)).map (z.cells[· % z.cells.size]!)) vparts.toList = some us' from g1]
                  simp only [Sem.run_bind, newRow_run, Result.andThen_ok, Sem.run_pure]
              -- behind the kills
              have hK := killAll_rel ks h
              have hokK : ∀ b, okB A s.H m w b → okB A (killAll ks s).H m w b := fun b hb => ⟨hb.1, fun o ho p hp => hb.2.1 o (killAll_H ks o s ho).1 p hp, hb.2.2⟩
              have hownK : ∀ o ∈ ks, ∀ p, m o = some p → okB A (killAll ks s).H m w p.1 := by
                intro o ho p hp
                have hso : s.H o ≠ none := by
                  -- a key that is read by value is there
                  exact fzkE_live ks els xs hks o ho
                refine ⟨own_lt h hso hp, fun o' ho' p' hp' he => ?_, h.hA _ (own_ge h hso hp)⟩
                obtain ⟨h1, h2⟩ := killAll_H ks o' s ho'
                have : o' = o := h.inj o' o p' p h1 hso hp' hp he
                exact h2 (this ▸ ho)
              obtain ⟨r1, r2⟩ := fzkE_rep h hokK els xs ks hks hownK
              have hxl : xs.length = len := by rw [r1, g3]; simp
              have hN := new_ds hK t len e ei.sz (els := xs) (cur := us') (by omega) (by
                  simp only [maxLen]
                  have : len * 1 ≤ len * ei.sz := Nat.mul_le_mul_left _ (by omega)
                  omega) (by rw [g2, hus0]) (fun j c hj => by
                have hjl : j < els.length := by have := (List.getElem?_eq_some_iff.1 hj).1; omega
                obtain ⟨q1, q2⟩ := r2 j els[j] c (List.getElem?_eq_getElem hjl) hj
                obtain ⟨q3, q4⟩ := g4 j els[j] (List.getElem?_eq_getElem hjl)
                refine ⟨by omega, fun i d hi => ?_⟩
                have hil : i < els[j].length := by have := (List.getElem?_eq_some_iff.1 hi).1; omega
                obtain ⟨u, hu, hv⟩ := q4 i els[j][i] (List.getElem?_eq_getElem hil)
                exact ⟨u, hu, q2 i _ d u (List.getElem?_eq_getElem hil) hi hv⟩)
              refine ⟨_, _, hrun, _, _, hN.put _ (v := .ref t 0 len) ?_, ha⟩
              have := VRel.ref (w := w.alloc (.cells us' e)) (ok := okB A ((killAll ks s).new t (.ds e ei.sz xs)).H (updM m t (some (w.heap.size, len))) (w.alloc (.cells us' e))) (m := updM m t (some (w.heap.size, len))) (H := ((killAll ks s).new t (.ds e ei.sz xs)).H) t 0 len e ei.sz xs w.heap.size len len
                (by simp [St.new, St.setH, nbeq_self, scrO]) (by omega) (updM_self _ _ _) (fun _ => rfl) (by omega)
              rw [Nat.zero_mul] at this
              exact this
            · exact ha.elim
          · exact ha.elim
      · exact ha.elim
    · exact ha.elim
  · exact ha.elim
end
end Ai
