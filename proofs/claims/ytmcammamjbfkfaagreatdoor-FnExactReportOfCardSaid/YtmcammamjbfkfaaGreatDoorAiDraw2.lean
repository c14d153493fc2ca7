import Derived.Test.YtmcammamjbfkfaaGreatDoorAiDraw
import Derived.Deep.Quiet
set_option maxHeartbeats 1000000
set_option linter.unusedVariables false
set_option linter.unusedSimpArgs false
namespace Ai
open Go Go.RowKit
section
variable {E : Env} {N : Nat} {A : Nat → Prop} {w0 w w' : World} {m m' : Own} {s s' : St} {a : Act} {dst : Option Tmp} {k : St → Prop}

/-! ### a row of values, made by value -/
theorem bs_by_value (h : SRel E N A w0 m s a w) (T : TypeId) (len : Nat) {parts : List (Nat × AV)} {vparts : Array (Nat × Value)} (hl : parts.length = vparts.size)
    (hp : ∀ (q : Nat) (i : Nat) (x : AV), parts[q]? = some (i, x) → ∃ v, vparts[q]? = some (i, v) ∧ VRel w (okB A s.H m w) m s.H x v) {K : AV → Prop}
    (ha : aBS E T len parts s K) : ∃ v w' x, (Instr.buildSlice T len vparts).run E.P w = .ok v w' ∧ Below w.heap.size w w' ∧ VRel w' (okB A s.H m w') m s.H x v ∧ K x := by
  unfold aBS at ha
  split at ha
  · rename_i ti hti
    have hd := desc_of hti
    split at ha
    · rename_i e he
      rw [he] at hd
      split at ha
      · rename_i ei hei
        cases hb : (Nat.beq ei.sz 0 || Nat.blt 4096 (len * ei.sz)) with
        | true => rw [hb] at ha; exact ha.elim
        | false =>
          rw [hb] at ha
          simp only [Bool.or_eq_false_iff] at hb
          have hnz : ei.sz ≠ 0 := fun e => by rw [e] at hb; exact absurd hb.1 (by simp [Nat.beq])
          have hbig : len * ei.sz ≤ 4096 := by
            rcases Nat.lt_or_ge 4096 (len * ei.sz) with h1 | h1
            · have : Nat.blt 4096 (len * ei.sz) = true := by simpa [Nat.blt_eq] using h1
              rw [this] at hb; exact absurd hb.2 (by simp)
            · exact h1
          simp only [cond_false] at ha
          split at ha
          · rename_i els hels
            split at ha
            · rename_i xs hks
              obtain ⟨z, hz, hzc⟩ := zero_run hei w
              have hs := sz_run hei w
              have hzl := (E.hΘ e ei hei).zlen
              have hzsz : z.cells.size = ei.sz := by rw [hzc]; simp [hzl]
              let us0 : Array Value := (Array.range (len * ei.sz)).map (z.cells[· % z.cells.size]!)
              have hus0 : us0.size = len * ei.sz := by simp [us0]
              have hz0 : ∀ (j : Nat) (c : List AV), (List.replicate len (ei.zero.map AV.d))[j]? = some c → c.length = ei.sz ∧ ∀ (i : Nat) (q : AV), c[i]? = some q → ∃ u, us0[j * ei.sz + i]? = some u ∧ VRel w (okB A s.H m w) m s.H q u := by
                intro j c hj
                rw [List.getElem?_replicate] at hj
                split at hj
                · rename_i hjn
                  injection hj with hj; subst hj
                  refine ⟨by simp [hzl], fun i q hq => ?_⟩
                  simp only [List.getElem?_map, Option.map_eq_some_iff] at hq
                  obtain ⟨d, hd', rfl⟩ := hq
                  have hi : i < ei.sz := by have := (List.getElem?_eq_some_iff.1 hd').1; omega
                  refine ⟨rawD d, ?_, .d _ _ (zero_rep hei (List.mem_of_getElem? hd'))⟩
                  have hlt : j * ei.sz + i < len * ei.sz := by
                    have : (j + 1) * ei.sz ≤ len * ei.sz := Nat.mul_le_mul_right _ hjn
                    rw [Nat.add_mul, Nat.one_mul] at this; omega
                  have hmod : (j * ei.sz + i) % z.cells.size = i := by rw [hzsz, Nat.mul_comm, Nat.mul_add_mod]; exact Nat.mod_eq_of_lt hi
                  have hg : z.cells[i]? = some (rawD d) := by rw [hzc]; simp [hd']
                  have hi3 : i < z.cells.size := by omega
                  simp only [us0, Array.getElem?_map, Array.getElem?_range, if_pos hlt, Option.map_some, hmod]
                  congr 1
                  rw [getElem!_pos z.cells i hi3]
                  rw [Array.getElem?_eq_getElem hi3] at hg
                  injection hg
                · cases hj
              obtain ⟨us', g1, g2, g3, g4⟩ := fillE_rel (w := w) (m := m) (ok := okB A s.H m w) (H := s.H) parts vparts.toList (List.replicate len (ei.zero.map .d)) els us0 (by simpa using hl) (fun q i x hq => by simpa using hp q i x hq) (by simp [hus0]) hz0 hels
              have hrun : (Instr.buildSlice T len vparts).run E.P w = .ok (.slice (some ⟨w.heap.size, 0, none⟩) len len) (w.alloc (.cells us' e)) := by
                have hne : ¬ (len * ei.sz > 2 ^ 24) := by omega
                by_cases hl0 : len * ei.sz = 0
                · have hus00 : us0 = (Array.range (len * ei.sz)).map ((#[] : Array Value)[· % (#[] : Array Value).size]!) := by
                    simp only [us0, hl0]; simp
                  rw [hus00] at g1
                  simp only [Instr.buildSlice, Sem.run_bind, run_underlying hd, Result.andThen_ok, hs, if_neg hne, if_pos hl0, Sem.run_pure, Sem.run_ite, g1, newRow_run]
                · simp only [Instr.buildSlice, Sem.run_bind, run_underlying hd, Result.andThen_ok, hs, if_neg hne, if_neg hl0, Sem.run_pure, Sem.run_ite, hz]
                  rw [show Instr.fill (fun i => some (i * ei.sz, ei.sz)) ((Array.range (len * ei.sz)).map (z.cells[· % z.cells.size]!)) vparts.toList = some us' from g1]
                  simp only [Sem.run_bind, newRow_run, Result.andThen_ok, Sem.run_pure]
              have hB : Below w.heap.size w (w.alloc (.cells us' e)) := (Below.refl _ w).alloc (Nat.le_refl _) _
              have hok : ∀ b, okB A s.H m w b → okB A s.H m (w.alloc (.cells us' e)) b := fun b hb => ⟨Nat.lt_of_lt_of_le hb.1 hB.size, hb.2⟩
              obtain ⟨r1, r2⟩ := fzkE_rep h (ok := okB A s.H m w) (fun _ hb => hb) els xs [] hks (by simp)
              have hxl : xs.length = len := by rw [r1, g3]; simp
              refine ⟨_, _, _, hrun, hB, ?_, ha⟩
              have hown : okB A s.H m (w.alloc (.cells us' e)) w.heap.size := ⟨by simp [World.alloc_eq], fun o ho p hp he => by have := own_lt h ho hp; omega, h.hA _ h.below.size⟩
              have hcells : ∀ (j : Nat) (c : List D), xs[j]? = some c → c.length = ei.sz ∧ ∀ (i : Nat) (d : D), c[i]? = some d → ∃ u, us'[j * ei.sz + i]? = some u ∧ RepD w (okB A s.H m w) d u := fun j c hj => by
                have hjl : j < els.length := by have := (List.getElem?_eq_some_iff.1 hj).1; omega
                obtain ⟨q1, q2⟩ := r2 j els[j] c (List.getElem?_eq_getElem hjl) hj
                obtain ⟨q3, q4⟩ := g4 j els[j] (List.getElem?_eq_getElem hjl)
                refine ⟨by omega, fun i d hi => ?_⟩
                have hil : i < els[j].length := by have := (List.getElem?_eq_some_iff.1 hi).1; omega
                obtain ⟨u, hu, hv⟩ := q4 i els[j][i] (List.getElem?_eq_getElem hil)
                exact ⟨u, hu, q2 i _ d u (List.getElem?_eq_getElem hil) hi hv⟩
              have := RepD.sl (w := w.alloc (.cells us' e)) (ok := okB A s.H m (w.alloc (.cells us' e))) xs ei.sz w.heap.size 0 len (fun q => us'.getD q undef) hown (by omega) (fun j c hj => ⟨(hcells j c hj).1, fun i d hi => by
                  obtain ⟨u, hu, _⟩ := (hcells j c hj).2 i d hi
                  have hh : (w.alloc (.cells us' e)).heap[w.heap.size]? = some (.cells us' e (0, 0)) := by show (w.heap.push _)[w.heap.size]? = _; exact Array.getElem?_push_size
                  simp only [World.cell?, hh, Nat.zero_add, Array.getD_eq_getD_getElem?, hu, Option.getD_some]; rfl⟩) (fun j c hj i d hi => by
                  obtain ⟨u, hu, hr⟩ := (hcells j c hj).2 i d hi
                  simp only [Array.getD_eq_getD_getElem?, hu, Option.getD_some]
                  exact hr.mono fun b hb => ⟨hok b hb, hB.block b hb.1⟩)
              rw [hxl] at this
              exact .d _ _ this
            · exact ha.elim
          · exact ha.elim
      · exact ha.elim
    · exact ha.elim
  · exact ha.elim

/-! ### an operation of such a region is sound -/
theorem Local.aop {G : Option Tmp → St → (St → Prop) → Prop} {s : St} (hl : Local G s) {dst : Option Tmp} {k : St → Prop} (h : G (some 0) s (probe fun v => k (put dst v s))) : G dst s k := by
  obtain ⟨v, hv, h2⟩ := hl _ h
  exact h2 dst s.τ k hv

theorem retK_of_QK {dst : Option Tmp} {s : St} {k : St → Prop} {r : AV} (h : retQK (fun v => k (put dst v s)) r) : retK dst s k r := by
  cases r <;> first | exact h | exact .inl h

theorem AQ_sound (h : SRel E N A w0 m s a w) (o : Oper) (ha : AQ E N o.op o.dst s k) : OSat E N A w0 o a w k := by
  by_cases hb : ∃ T len parts, o.op = .buildSlice T len parts
  · obtain ⟨T, len, parts, hop⟩ := hb
    unfold AQ at ha
    rw [hop] at ha
    simp only [AQv] at ha
    obtain ⟨h1, h2⟩ := parts_rel h parts
    obtain ⟨v, w', x, hr, hB, hv, hk⟩ := bs_by_value h T len h1 h2 ha
    intro next Q hn
    simp only [Oper.wp, execOp, hop, Sem.run_bind, Sem.run_pure, hr, Result.andThen_ok, Oper.upon_value]
    exact hn m _ _ _ ((h.below' hB).put _ hv) hk
  · refine AOp_sound h o ?_
    unfold AQ at ha
    generalize o.op = op at ha hb
    cases op <;> simp only [AQv] at ha <;> simp only [AOp] <;> try first | exact ha.elim | exact ha | exact Local.aop (local_load _ _ s) ha | exact Local.aop (local_bin _ _ _ _ s) ha | exact Local.aop (local_un _ _ s) ha | exact Local.aop (local_conv _ _ _ s) ha | exact Local.aop (local_slice _ _ _ _ _ s) ha | exact Local.aop (local_field _ _ _ s) ha | exact Local.aop (local_part _ _ _ s) ha | exact Local.aop (local_idxAddr _ _ _ s) ha | exact Local.aop (local_idx _ _ _ s) ha | exact Local.aop (local_build _ _ s) ha
    case buildSlice T len parts => exact absurd ⟨T, len, parts, rfl⟩ hb
    case call c =>
      obtain ⟨cal, args, argT⟩ := c
      cases cal with
      | invoke r nm => exact ha.elim
      | builtin b =>
        simp only [aCallV] at ha
        simp only [aCall]
        split at ha
        · rename_i T TT x hT hx
          simp only [hT, hx]
          exact Local.aop (local_len T x s) ha
        · rename_i hx
          simp only [hx]
          exact ha
        · rename_i hx
          simp only [hx]
          exact ha
        · exact ha.elim
      | value f =>
        simp only [aCallV] at ha
        simp only [aCall]
        split at ha
        · rename_i g caps as hev has
          split at ha
          · rename_i cs hcs
            cases hB : (hasOwnL (evs N s args) || hasOwnL caps) with
            | true =>
              rw [hB] at ha
              simp only [cond_true] at ha ⊢
              obtain ⟨r, h1, h2, h3⟩ := ha
              exact .inl ⟨_, h1, fun r' hr => by subst hr; exact ⟨h2, retK_of_QK h3⟩⟩
            | false =>
              rw [hB] at ha
              simp only [cond_false] at ha ⊢
              obtain ⟨r, h1, h3⟩ := ha
              exact ⟨_, h1, fun r' hr => by subst hr; exact retK_of_QK h3⟩
          · exact ha.elim
        · exact ha.elim

/-! ### every order -/
theorem put_H (dst : Option Tmp) (v : AV) (s : St) : (put dst v s).H = s.H := by cases dst <;> rfl
theorem put_mk (dst : Option Tmp) (v : AV) (s : St) : put dst v s = ⟨(put dst v s).τ, s.H⟩ := by cases dst <;> rfl
theorem ev_put {s : St} {dst : Option Tmp} {v : AV} {x : Operand} (h : ∀ d, dst = some d → x ≠ .tmp d) : ev N (put dst v s) x = ev N s x := by
  cases dst with
  | none => rfl
  | some d =>
    cases x with
    | tmp t =>
      have hne : t ≠ d := fun e => h d rfl (by rw [e])
      simp only [ev, put, nbeq_ne hne, cond_false]
    | const v => rfl
    | global v => rfl
    | func v => rfl
theorem St.put_comm (s : St) {x y : Option Tmp} (v u : AV) (h : ∀ d, x = some d → y ≠ some d) : put y u (put x v s) = put x v (put y u s) := by
  cases x with
  | none => rfl
  | some d =>
    cases y with
    | none => rfl
    | some e =>
      have hne : d ≠ e := fun he => h d rfl (he ▸ rfl)
      simp only [put]
      congr 1
      funext i
      by_cases h1 : i = e
      · subst h1; rw [nbeq_self, nbeq_ne (Ne.symm hne)]; rfl
      · rw [nbeq_ne h1]; rfl
theorem wants_put {ops : Array Oper} (o : Oper) (s : St) (dst : Option Tmp) (v : AV) (h : ∀ d, dst = some d → d ∉ o.looksAt ops) : wants N ops o.guard (put dst v s) = wants N ops o.guard s := by
  unfold wants
  cases hg : o.guard with
  | none => rfl
  | some p =>
    obtain ⟨j, want⟩ := p
    simp only
    cases hj : ops[j]? with
    | none => rfl
    | some oj =>
      simp only
      cases ht : oj.dst with
      | none => rfl
      | some t =>
        simp only
        rw [ev_put fun d hd he => by
          injection he with he
          subst he
          exact h _ hd (by simp [Oper.looksAt, hg, hj, ht])]
theorem alike_put {ops : Array Oper} (o : Oper) (s : St) (dst : Option Tmp) (v : AV) (h : ∀ d, dst = some d → d ∉ o.looksAt ops) : Alike N o.op s (put dst v s).τ := by
  intro x hx
  rw [← put_mk]
  exact ev_put fun d hd hxd => h d hd (by
    subst hxd
    exact List.mem_append_left _ (List.mem_filterMap.2 ⟨.tmp d, by simpa using hx, rfl⟩))
theorem alike_back {ops : Array Oper} (o : Oper) (s : St) (dst : Option Tmp) (v : AV) (h : ∀ d, dst = some d → d ∉ o.looksAt ops) : Alike N o.op (put dst v s) s.τ := by
  intro x hx
  rw [put_H]
  exact (ev_put fun d hd hxd => h d hd (by
    subst hxd
    exact List.mem_append_left _ (List.mem_filterMap.2 ⟨.tmp d, by simpa using hx, rfl⟩))).symm

/-- Operation number i comes up. -/
def aqOp (E : Env) (N : Nat) (ops : Array Oper) (i : Nat) (K : St → Prop) (s : St) : Prop :=
  match ops[i]? with
  | none => K s
  | some o => match wants N ops o.guard s with
    | some true => AQ E N o.op o.dst s K
    | some false => K (put o.dst undefA s)
    | none => False
def AAny (E : Env) (N : Nat) (ops : Array Oper) (Q : St → Prop) : Nat → Array Bool → St → Prop
  | 0, listed, s => Region.ready .any ops listed = [] ∧ Q s
  | fuel + 1, listed, s => (Region.ready .any ops listed = [] → Q s) ∧ ∀ i ∈ Region.ready .any ops listed, aqOp E N ops i (AAny E N ops Q fuel (listed.setIfInBounds i true)) s

def YieldsA (E : Env) (N : Nat) (ops : Array Oper) (o : Oper) (v : AV) (s : St) : Prop :=
  (wants N ops o.guard s = some true ∧ ∀ τ', Alike N o.op s τ' → ∀ K : AV → Prop, K v → AQv E N o.op ⟨τ', s.H⟩ K) ∨ (wants N ops o.guard s = some false ∧ v = undefA)

variable {ops : Array Oper}
theorem YieldsA.op {i : Nat} {o : Oper} {v : AV} {s : St} (hi : ops[i]? = some o) (hy : YieldsA E N ops o v s) {K : St → Prop} (h : K (put o.dst v s)) : aqOp E N ops i K s := by
  unfold aqOp
  simp only [hi]
  rcases hy with ⟨hw, hv⟩ | ⟨hw, rfl⟩
  · simp only [hw]
    exact hv s.τ (fun _ _ => rfl) _ h
  · simp only [hw]; exact h
theorem yieldsA_of {i : Nat} {o : Oper} {s : St} {K : St → Prop} (hi : ops[i]? = some o) (h : aqOp E N ops i K s) : ∃ v, YieldsA E N ops o v s ∧ K (put o.dst v s) := by
  unfold aqOp at h
  simp only [hi] at h
  split at h
  · rename_i hw
    obtain ⟨v, h1, h2⟩ := AQv_local o.op s _ h
    exact ⟨v, .inl ⟨hw, h2⟩, h1⟩
  · rename_i hw
    exact ⟨undefA, .inr ⟨hw, rfl⟩, h⟩
  · exact h.elim
theorem YieldsA.put {o oj : Oper} {v : AV} {s : St} (hy : YieldsA E N ops o v s) (h : ∀ d, oj.dst = some d → d ∉ o.looksAt ops) (u : AV) : YieldsA E N ops o v (Ai.put oj.dst u s) := by
  unfold YieldsA at *
  rw [wants_put o s oj.dst u h]
  refine hy.imp (fun ⟨h1, h2⟩ => ⟨h1, fun τ' hal K hK => ?_⟩) id
  rw [put_H]
  refine h2 τ' (fun x hx => ?_) K hK
  have h3 := hal x hx
  rw [put_H] at h3
  rw [h3]
  have := alike_put (N := N) o s oj.dst u h x hx
  rwa [← put_mk] at this
theorem aqOp_mono {i : Nat} {s : St} {K K' : St → Prop} (h : ∀ s, K s → K' s) (hh : aqOp E N ops i K s) : aqOp E N ops i K' s := by
  cases ho : ops[i]? with
  | none => unfold aqOp at *; simp only [ho] at *; exact h _ hh
  | some o =>
    obtain ⟨v, hy, hk⟩ := yieldsA_of ho hh
    exact hy.op ho (h _ hk)

theorem aqOp_put {j : Nat} {oi oj : Oper} {v : AV} (hj : ops[j]? = some oj) (hap : oi.apart ops oj = true) {K : St → Prop} {s : St}
    (hy : YieldsA E N ops oi v s) (h : aqOp E N ops j K (put oi.dst v s)) : aqOp E N ops j (fun s' => YieldsA E N ops oi v s' ∧ K (put oi.dst v s')) s := by
  obtain ⟨h1, h2, h3⟩ := Oper.apart_spec hap
  obtain ⟨u, hu, hk⟩ := yieldsA_of hj h
  have hu' : YieldsA E N ops oj u s := by
    unfold YieldsA at *
    rw [wants_put oj s oi.dst v h1] at hu
    refine hu.imp (fun ⟨g1, g2⟩ => ⟨g1, fun τ' hal K hK => ?_⟩) id
    rw [put_H] at g2
    refine g2 τ' (fun x hx => ?_) K hK
    have h3 := hal x hx
    rw [put_H, h3]
    have := alike_put (N := N) oj s oi.dst v h1 x hx
    rw [← put_mk] at this
    exact this.symm
  exact hu'.op hj ⟨hy.put h3 u, by rw [← St.put_comm s v u h2]; exact hk⟩

theorem AAny_first {Q : St → Prop} {i : Nat} {oi : Oper} {v : AV} (hi : ops[i]? = some oi) :
    ∀ (fuel : Nat) (listed : Array Bool) (s : St),
      (∀ j oj, ops[j]? = some oj → j ≠ i → listed.getD j true = false → (∀ e ∈ oj.after, Region.binds .any e = true → e.on ≠ i) → oi.apart ops oj = true) →
      i ∈ Region.ready .any ops listed → YieldsA E N ops oi v s →
      AAny E N ops Q fuel (listed.setIfInBounds i true) (put oi.dst v s) → AAny E N ops Q (fuel + 1) listed s := by
  intro fuel
  induction fuel with
  | zero =>
    intro listed a _ hr hy H
    refine ⟨fun h => (by rw [h] at hr; cases hr), fun j hj => ?_⟩
    by_cases hji : j = i
    · subst hji; exact hy.op hi H
    · have := ready_mono hj hji
      rw [H.1] at this
      cases this
  | succ fuel ih =>
    intro listed a hfree hr hy H
    refine ⟨fun h => (by rw [h] at hr; cases hr), fun j hj => ?_⟩
    by_cases hji : j = i
    · subst hji; exact hy.op hi H
    · have h1 := H.2 j (ready_mono hj hji)
      obtain ⟨hjun, oj, hoj, hall⟩ := mem_ready.1 hj
      have hnot : ∀ e ∈ oj.after, Region.binds .any e = true → e.on ≠ i := fun e he hb heq => by
        have h1 := hall e he hb
        have h0 := (mem_ready.1 hr).1
        rw [heq] at h1
        rcases Nat.lt_or_ge i listed.size with h' | h'
        · simp [h'] at h0 h1; rw [h0] at h1; cases h1
        · simp [Array.getElem?_eq_none h'] at h1
      have h2 := aqOp_put hoj (hfree j oj hoj hji hjun hnot) hy h1
      have hfree' : ∀ k ok, ops[k]? = some ok → k ≠ i → (listed.setIfInBounds j true).getD k true = false →
          (∀ e ∈ ok.after, Region.binds .any e = true → e.on ≠ i) → oi.apart ops ok = true := fun k ok hk hki hun hno => by
        refine hfree k ok hk hki ?_ hno
        by_cases hjk : j = k
        · subst hjk; exact hjun
        · rw [getD_set_ne true hjk] at hun; exact hun
      refine aqOp_mono (fun a' h3 => ih (listed.setIfInBounds j true) a' hfree' (ready_mono hr (Ne.symm hji)) h3.1 ?_) h2
      rw [Array.setIfInBounds_comm _ _ hji]
      exact h3.2

theorem AAny_lex {Q : St → Prop} : ∀ (l : List Oper) (k : Nat) (listed : Array Bool) (s : St), (∀ j, l[j]? = ops[k + j]?) →
    Region.lexFrom .any ops l.length k listed = true → AQs E N ops l Q s → AAny E N ops Q l.length listed s
  | [], _, _, _, _, hB, h => ⟨by simpa [Region.lexFrom] using hB, h⟩
  | o :: l, k, listed, s, hl, hB, h => by
    have h0 : ops[k]? = some o := by simpa using (hl 0).symm
    simp only [List.length_cons, Region.lexFrom, Bool.and_eq_true] at hB
    obtain ⟨⟨hr, hf⟩, hB'⟩ := hB
    have hst : aqOp E N ops k (AQs E N ops l Q) s := by unfold aqOp; simp only [h0]; exact h
    obtain ⟨v, hy, hK⟩ := yieldsA_of h0 hst
    exact AAny_first h0 l.length listed s (Region.free_spec h0 hf) (by simpa using hr) hy
      (AAny_lex l (k + 1) _ _ (fun j => by have := hl (j + 1); simpa [Nat.add_assoc, Nat.add_comm 1 j] using this) hB' hK)

theorem wpAny_of_AAny {Q : AX → St → Prop} : ∀ (fuel : Nat) (listed : Array Bool) (m : Own) (s : St) (a : Act) (w : World), SRel E N A w0 m s a w →
    AAny E N ops (Q .normal) fuel listed s → wpAny E.P .any ops (liftQ E N A w0 Q) fuel listed a w
  | 0, _, m, s, _, _, h, ha => ⟨ha.1, m, s, h, ha.2⟩
  | fuel + 1, listed, m, s, a, w, h, ha => by
    refine ⟨fun h0 => ⟨m, s, h, ha.1 h0⟩, fun i hi => ?_⟩
    have h1 := ha.2 i hi
    unfold aqOp at h1
    unfold wpOp
    cases ho : ops[i]? with
    | none => simp only [ho] at h1 ⊢; exact wpAny_of_AAny fuel _ m s a w h h1
    | some o =>
      simp only [ho] at h1 ⊢
      split at h1
      · rename_i hw
        rw [if_pos (wants_sound h ops o hw)]
        exact .inl (AQ_sound h o h1 _ _ fun m' s' a' w' hS hk => wpAny_of_AAny fuel _ m' s' a' w' hS hk)
      · rename_i hw
        rw [if_neg (by rw [wants_sound h ops o hw]; simp)]
        exact wpAny_of_AAny fuel _ m _ _ w (h.put o.dst undef_rel) h1
      · exact h1.elim

theorem ADraw_sound (ops : Array Oper) (Q : AX → St → Prop) {id : Nat} (h : SRel E N A w0 m s a w) (ha : ADraw E N ops Q s) : (Code.region id ops true).wp E.P (liftQ E N A w0 Q) a w := by
  obtain ⟨hB, hq⟩ := ha
  simp only [Region.lexB, Bool.and_eq_true] at hB
  refine wp_region_any E.hm (wpAny_of_AAny _ _ m s a _ h.drew ?_)
  have := AAny_lex (E := E) (N := N) (Q := Q .normal) ops.toList 0 (Array.replicate ops.size false) s (by simp) (by simpa using hB.2) hq
  simpa using this

end
end Ai
