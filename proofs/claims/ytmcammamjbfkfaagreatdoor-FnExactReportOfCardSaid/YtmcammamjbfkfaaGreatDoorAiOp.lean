import Derived.Test.YtmcammamjbfkfaaGreatDoorAiCall
set_option maxHeartbeats 1000000
set_option linter.unusedVariables false
set_option linter.unusedSimpArgs false
namespace Ai
open Go Go.RowKit
section
variable {E : Env} {N : Nat} {A : Nat → Prop} {w0 w w' : World} {m m' : Own} {s s' : St} {a : Act} {dst : Option Tmp} {k : St → Prop}

theorem opt_rel (h : SRel E N A w0 m s a w) (x : Option Operand) : (∀ v, x.map (ev N s) = some v → ∃ u, x.map a.eval = some u ∧ VRel w (okB A s.H m w) m s.H v u) ∧ (x.map (ev N s) = none → x.map a.eval = none) := by
  cases x with
  | none => simp
  | some x => exact ⟨fun v hv => ⟨_, rfl, by simp at hv; subst hv; exact h.ev x⟩, by simp⟩

theorem parts_rel (h : SRel E N A w0 m s a w) (parts : Array (Nat × Operand)) : (parts.toList.map fun p => (p.1, ev N s p.2)).length = (parts.map fun (i, x) => (i, a.eval x)).size ∧
    ∀ (q : Nat) (i : Nat) (x : AV), (parts.toList.map fun p => (p.1, ev N s p.2))[q]? = some (i, x) → ∃ v, (parts.map fun (i, x) => (i, a.eval x))[q]? = some (i, v) ∧ VRel w (okB A s.H m w) m s.H x v := by
  refine ⟨by simp, fun q i x hq => ?_⟩
  simp only [List.getElem?_map, Option.map_eq_some_iff, Prod.mk.injEq] at hq
  obtain ⟨p, hp, rfl, rfl⟩ := hq
  refine ⟨a.eval p.2, ?_, h.ev p.2⟩
  rw [Array.getElem?_toList] at hp
  simp [Array.getElem?_map, hp]

theorem AOp_sound (h : SRel E N A w0 m s a w) (o : Oper) (ha : AOp E N o.op o.dst s k) : OSat E N A w0 o a w k := by
  obtain ⟨dst, op, type, pos, after, guard⟩ := o
  simp only at ha
  cases op <;> simp only [AOp] at ha <;> try exact ha.elim
  case move x =>
    rw [kv_eq] at ha
    exact OSat.value (r := .ok (a.eval x) w) rfl (Res.same h rfl (h.ev x) ha)
  case assign x =>
    rw [kv_eq] at ha
    exact OSat.value (r := .ok (a.eval x) w) rfl (Res.same h rfl (h.ev x) ha)
  case pick c x y =>
    have hc := h.ev c
    split at ha
    · rename_i b hb
      rw [hb] at hc
      generalize hv : a.eval c = cv at hc
      cases hc with
      | d _ _ hc => cases hc with
        | bool =>
          cases b with
          | true =>
            simp only at ha
            rw [kv_eq] at ha
            exact OSat.value (r := .ok (a.eval x) w) (by simp [execOp, hv, asBool]) (Res.same h rfl (h.ev x) ha)
          | false =>
            simp only at ha
            rw [kv_eq] at ha
            exact OSat.value (r := .ok (a.eval y) w) (by simp [execOp, hv, asBool]) (Res.same h rfl (h.ev y) ha)
    · exact ha.elim
  case alloc T =>
    split at ha
    · rename_i ti t hti
      exact OSat.value (r := (Instr.alloc T true (.tuple #[])).run E.P w) (by simp [execOp]) (aAlloc_sound h T ti t hti rfl ha)
    · exact ha.elim
  case box T x =>
    split at ha
    · rename_i cs t hcs
      exact OSat.value (r := (Instr.box T (a.eval x)).run E.P w) (by simp [execOp]) (aBox_sound h T t (h.ev x) hcs rfl ha)
    · exact ha.elim
  case build T parts =>
    obtain ⟨h1, h2⟩ := parts_rel h parts
    exact OSat.value (r := (Instr.build T _).run E.P w) (by simp only [execOp, Sem.run_bind, Sem.run_pure]) (aBuild_sound h T h1 h2 ha)
  case buildSlice T len parts =>
    obtain ⟨h1, h2⟩ := parts_rel h parts
    exact OSat.value (r := (Instr.buildSlice T len _).run E.P w) (by simp only [execOp, Sem.run_bind, Sem.run_pure]) (aBuildSlice_sound h T len h1 h2 ha)
  case load T x => exact OSat.value (r := (Instr.loadAt T (a.eval x)).run E.P w) (by simp [execOp]) (aLoad_sound h (h.ev x) ha)
  case store T x y => exact OSat.unit (r := (Instr.storeAt T (a.eval x) (a.eval y)).run E.P w) (by simp [execOp]) (aStore_sound h T (h.ev x) (h.ev y) ha)
  case nilCheck x =>
    have hc := h.ev x
    split at ha
    · rename_i p q hb
      rw [hb] at hc
      generalize hv : a.eval x = cv at hc
      cases hc with
      | ptr _ _ e cs b full hH hm => exact OSat.value (r := .ok (.pointer (some ⟨b, q, none⟩)) w) (by simp [execOp, hv]) (Res.same h rfl (.ptr p q e cs b full hH hm) ha)
    · rename_i p q r hb
      rw [hb] at hc
      generalize hv : a.eval x = cv at hc
      cases hc with
      | eptr _ _ _ e sz els b full hH hj hm => exact OSat.value (r := .ok (.pointer (some ⟨b, q * sz + r, none⟩)) w) (by simp [execOp, hv]) (Res.same h rfl (.eptr p q r e sz els b full hH hj hm) ha)
    · rename_i cs hb
      rw [hb] at hc
      generalize hv : a.eval x = cv at hc
      cases hc with
      | fp _ b off us h1 h2 => exact OSat.value (r := .ok (.pointer (some ⟨b, off, none⟩)) w) (by simp [execOp, hv]) (Res.same h rfl (.fp cs b off us h1 h2) ha)
    · rename_i f cs hb
      rw [hb] at hc
      generalize hv : a.eval x = cv at hc
      cases hc with
      | fn _ _ us hl hr => exact OSat.value (r := .ok (.func (.func f) #[] us) w) (by simp [execOp, hv]) (Res.same h rfl (.fn f cs us hl hr) ha)
    · exact ha.elim
  case binOp op T x y T' =>
    have hg : ∀ (x' y' : Operand), (a.eval x = a.eval x') → True := fun _ _ _ => trivial
    have hx := h.ev x
    have hy := h.ev y
    -- the guard of '==' lets scalars by
    have hguard : (eqGuard op T x y (a.eval x) (a.eval y)).run E.P w = .ok () w := by
      have hsc : ∃ kx, (ev N s x = .d kx) := by
        unfold aBin at ha
        split at ha <;> first | exact ⟨_, ‹_›⟩ | exact ha.elim
      obtain ⟨kx, hkx⟩ := hsc
      rw [hkx] at hx
      generalize a.eval x = vx at hx
      generalize a.eval y = vy
      cases hx with
      | d _ _ hx =>
        unfold eqGuard
        cases hx <;> (cases op <;> simp)
    refine OSat.value (r := (Go.binOp op T (a.eval x) (a.eval y)).run E.P w) ?_ (aBin_sound h op T hx hy ha)
    simp only [execOp, Sem.run_bind, hguard, Result.andThen_ok, Sem.run_pure]
  case unOp op T x => exact OSat.value (r := (Op.unary op (a.eval x)).run E.P w) (by simp [execOp]) (aUn_sound h op (h.ev x) ha)
  case convert S T x => exact OSat.value (r := (Go.convert S T (a.eval x)).run E.P w) (by simp [execOp]) (aConv_sound h S T (h.ev x) ha)
  case makeFunc fn first caps =>
    split at ha
    · rename_i f
      cases hb : first.isEmpty with
      | false => rw [hb] at ha; exact ha.elim
      | true =>
        rw [hb] at ha
        simp only [cond_true] at ha
        have hf : first = #[] := by simpa using hb
        subst hf
        obtain ⟨h1, h2⟩ := evs_rel h caps
        exact OSat.value (r := .ok (.func (.func f) #[] (caps.map a.eval)) w) (by simp [execOp, Instr.makeFunc]) (Res.same h rfl (.fn f _ _ h1 h2) ha)
    · exact ha.elim
  case makeSlice T l c => exact OSat.value (r := (Instr.makeSlice T (a.eval l) (a.eval c)).run E.P w) (by simp [execOp]) (aMake_sound h T (h.ev l) (h.ev c) ha)
  case slice T x lo hi mx =>
    exact OSat.value (r := (Instr.sliceAt T (a.eval x) (lo.map a.eval) (hi.map a.eval) (mx.map a.eval)).run E.P w) (by simp [execOp]) (aSlice_sound h T (h.ev x) (opt_rel h lo).1 (opt_rel h lo).2 (opt_rel h hi).1 (opt_rel h hi).2 (opt_rel h mx).2 ha)
  case fieldAddr T x f => exact OSat.value (r := (Instr.fieldAt T (a.eval x) f).run E.P w) (by simp [execOp]) (aField_sound h T f (h.ev x) ha)
  case field T x f => exact OSat.value (r := (Instr.field T (a.eval x) f).run E.P w) (by simp [execOp]) (aPart_sound h T f (h.ev x) ha)
  case indexAddr T x i => exact OSat.value (r := (Instr.indexAt T (a.eval x) (a.eval i)).run E.P w) (by simp [execOp]) (aIdxAddr_sound h T (h.ev x) (h.ev i) ha)
  case index T x i => exact OSat.value (r := (Instr.index T (a.eval x) (a.eval i)).run E.P w) (by simp [execOp]) (aIdx_sound h T (h.ev x) (h.ev i) ha)
  case extract x i =>
    have hc := h.ev x
    split at ha
    · rename_i vs hb
      rw [hb] at hc
      split at ha
      · rename_i v hv2
        rw [kv_eq] at ha
        generalize hv : a.eval x = cv at hc
        cases hc with
        | tup _ us hl hr =>
          have hi : i < us.size := by have := (List.getElem?_eq_some_iff.1 hv2).1; omega
          exact OSat.value (r := .ok us[i] w) (by simp [execOp, hv, Instr.extract, Array.getElem?_eq_getElem hi]) (Res.same h rfl (hr i v _ hv2 (Array.getElem?_eq_getElem hi)) ha)
      · exact ha.elim
    · exact ha.elim
  case call c => exact aCall_sound h _ c rfl ha

/-! ### a region -/
theorem wants_sound (h : SRel E N A w0 m s a w) (ops : Array Oper) (o : Oper) {b : Bool} (hw : wants N ops o.guard s = some b) : Region.wanted o (yielded ops a.tmps) = b := by
  unfold wants at hw
  unfold Region.wanted
  cases hg : o.guard with
  | none => rw [hg] at hw; simp at hw; exact hw.symm
  | some p =>
    obtain ⟨j, want⟩ := p
    rw [hg] at hw
    simp only at hw
    split at hw
    · rename_i oj hoj
      split at hw
      · rename_i t ht
        have hev := h.ev (.tmp t)
        have hlt : t < N := by
          rcases Nat.lt_or_ge t N with h1 | h1
          · exact h1
          · exfalso
            have : ev N s (.tmp t) = .junk := by
              simp only [ev]
              have : Nat.blt t N = false := by
                cases hb : Nat.blt t N
                · rfl
                · exact absurd (by simpa [Nat.blt_eq] using hb) (by omega)
              rw [this]; rfl
            rw [this] at hw
            simp at hw
        have hget : a.tmps[t]? = some (a.eval (.tmp t)) := by
          have hlt2 : t < a.tmps.size := by rw [h.size]; exact hlt
          simp [Act.eval, Array.getD_eq_getD_getElem?, Array.getElem?_eq_getElem hlt2]
        split at hw
        · rename_i b0 hb0
          rw [hb0] at hev
          generalize hv : a.eval (.tmp t) = v at hev hget
          cases hev with
          | d _ _ hd => cases hd with
            | bool =>
              simp only [Option.some.injEq] at hw
              subst hw
              simp only [yielded, hoj, Option.bind_some, ht, hget]
              cases b0 <;> cases want <;> rfl
        · rename_i hb0
          rw [hb0] at hev
          generalize hv : a.eval (.tmp t) = v at hev hget
          cases hev with
          | tup _ us hl hr =>
            simp only [Option.some.injEq] at hw
            subst hw
            simp only [yielded, hoj, Option.bind_some, ht, hget]
            rfl
        · cases hw
      · cases hw
    · cases hw

def liftQ (E : Env) (N : Nat) (A : Nat → Prop) (w0 : World) (Q : AX → St → Prop) : Exit → Act → World → Prop
  | .normal, a, w => ∃ m s, SRel E N A w0 m s a w ∧ Q .normal s
  | .exit id, a, w => ∃ m s, SRel E N A w0 m s a w ∧ Q (.exit id) s
  | .ret, a, w => ∃ m s, SRel E N A w0 m s a w ∧ Q .ret s
  | _, _, _ => False

theorem AOps_sound (ops : Array Oper) (Q : AX → St → Prop) : ∀ (l : List Oper) {m : Own} {s : St} {a : Act} {w : World}, SRel E N A w0 m s a w → AOps E N ops l Q s → wpList E.P ops (liftQ E N A w0 Q) l a w
  | [], m, s, a, w, h, ha => ⟨m, s, h, ha⟩
  | o :: rest, m, s, a, w, h, ha => by
    have ha2 : (match wants N ops o.guard s with
      | some true => AOp E N o.op o.dst s (AOps E N ops rest Q)
      | some false => AOps E N ops rest Q (put o.dst undefA s)
      | none => False) := ha
    simp only [wpList]
    split at ha2
    · rename_i hw
      rw [if_pos (wants_sound h ops o hw)]
      exact .inl (AOp_sound h o ha2 _ _ fun m' s' a' w' hS hk => AOps_sound ops Q rest hS hk)
    · rename_i hw
      rw [if_neg (by rw [wants_sound h ops o hw]; simp)]
      exact AOps_sound ops Q rest (h.put o.dst undef_rel) ha2
    · exact ha2.elim

end
end Ai
