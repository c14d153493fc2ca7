import Derived.Test.YtmcammamjbfkfaaGreatDoorAiMem
set_option maxHeartbeats 1000000
set_option linter.unusedVariables false
set_option linter.unusedSimpArgs false
namespace Ai
open Go Go.RowKit
section
variable {E : Env} {N : Nat} {A : Nat → Prop} {w0 w w' : World} {m m' : Own} {s s' : St} {a : Act} {dst : Option Tmp} {k : St → Prop}

theorem desc_of {T : TypeId} {ti : TI} (h : E.Θ T = some ti) : DMatch E.P T ti.desc := (E.hΘ T ti h).desc

theorem aField_sound (h : SRel E N A w0 m s a w) (T : TypeId) (f : Nat) {x : AV} {vx : Value} (hx : VRel w (okB A s.H m w) m s.H x vx)
    (ha : aField E T f x dst s k) : Res E N A w0 a dst k ((Instr.fieldAt T vx f).run E.P w) := by
  unfold aField at ha
  split at ha
  · rename_i ti hti
    have hd := desc_of hti
    split at ha
    · rename_i fs hfs
      rw [hfs] at hd
      obtain ⟨F, hF, hFf⟩ := hd
      split at ha
      · rename_i off ft hf
        obtain ⟨fl, hfl, ho, hft⟩ := DMatch.field (P := E.P) hFf f off ft hf
        split at ha
        · rename_i fi hfi
          cases hz : Nat.beq fi.sz 0 with
          | true => rw [hz] at ha; exact ha.elim
          | false =>
            rw [hz] at ha
            simp only [cond_false] at ha
            have hnz : fi.sz ≠ 0 := fun e => by rw [e] at hz; cases hz
            have hrun : ∀ b o, (Instr.fieldAt T (.pointer (some ⟨b, o, none⟩)) f).run E.P w = .ok (.pointer (some ⟨b, o + off, none⟩)) w := by
              intro b o
              have hs := sz_run hfi w
              rw [← hft] at hs
              simp [Instr.fieldAt, run_underlying hF, hfl, Instr.sureAddr, fieldPlace, hs, hnz, ho, Addr.add_lit]
            split at ha
            · rename_i cs
              cases hx with
              | fp _ b o us hok hc =>
                refine Res.same h (hrun b o) (.fp _ b _ (fun i => us (off + i)) hok fun i d hi => ?_) ha
                rw [List.getElem?_drop] at hi
                have := hc _ d hi
                rw [← Nat.add_assoc] at this
                exact this
            · rename_i o i
              cases hx with
              | ptr _ _ e cs b full hH hm => exact Res.same h (hrun b i) (.ptr o _ e cs b full hH hm) ha
            · rename_i o j i
              cases hx with
              | eptr _ _ _ e sz els b full hH hj hm =>
                exact Res.same h (hrun b _) (by rw [Nat.add_assoc]; exact .eptr o j _ e sz els b full hH hj hm) ha
            · exact ha.elim
        · exact ha.elim
      · exact ha.elim
    · exact ha.elim
  · exact ha.elim

theorem aPart_sound (h : SRel E N A w0 m s a w) (T : TypeId) (f : Nat) {x : AV} {vx : Value} (hx : VRel w (okB A s.H m w) m s.H x vx)
    (ha : aPart E T f x dst s k) : Res E N A w0 a dst k ((Instr.field T vx f).run E.P w) := by
  unfold aPart at ha
  split at ha
  · rename_i ti hti
    have hd := desc_of hti
    split at ha
    · rename_i fs hfs
      rw [hfs] at hd
      obtain ⟨F, hF, hFf⟩ := hd
      split at ha
      · rename_i off ft hf
        obtain ⟨fl, hfl, ho, hft⟩ := DMatch.field (P := E.P) hFf f off ft hf
        split at ha
        · rename_i fi cs hfi
          cases hb : Nat.ble (off + fi.sz) cs.length with
          | false => rw [hb] at ha; exact ha.elim
          | true =>
            rw [hb] at ha
            simp only [cond_true] at ha
            have hle : off + fi.sz ≤ cs.length := Nat.le_of_ble_eq_true hb
            split at ha
            · rename_i v hv
              rw [kv_eq] at ha
              cases hx with
              | agg _ us hl hr =>
                have hl2 : ((cs.drop off).take fi.sz).length = ((us.toList.drop off).take fi.sz).length := by simp; omega
                have hr2 : ∀ (i : Nat) (c : AV) (u : Value), ((cs.drop off).take fi.sz)[i]? = some c → ((us.toList.drop off).take fi.sz)[i]? = some u → VRel w (okB A s.H m w) m s.H c u := by
                  intro i c u hc hu
                  have hi : i < fi.sz := by have := (List.getElem?_eq_some_iff.1 hc).1; simp at this; omega
                  rw [List.getElem?_take, if_pos hi, List.getElem?_drop] at hc hu
                  rw [Array.getElem?_toList] at hu
                  exact hr _ c u hc hu
                have hagg := agg_run hfi w
                have hs := sz_run hfi w
                rw [← hft] at hagg hs
                rcases mkVal_rel hl2 hr2 hv with ⟨hag, hrel⟩ | ⟨hag, h1, hrel⟩
                · refine Res.same h (u := .agg (us.extract off (off + fi.sz))) ?_ ?_ ha
                  · simp [Instr.field, run_underlying hF, hfl, asAgg, part, hagg, hs, hag, ho]
                  · have : (us.extract off (off + fi.sz)) = ((us.toList.drop off).take fi.sz).toArray := by
                      apply Array.ext'
                      simp [List.drop_take]
                    rw [this]; exact hrel
                · have hlt : off < us.size := by simp at h1; omega
                  refine Res.same h (u := us[off]) ?_ (hrel _ ?_) ha
                  · simp [Instr.field, run_underlying hF, hfl, asAgg, part, hagg, hs, hag, ho, Array.getElem?_eq_getElem hlt]
                  · have h0 : 0 < fi.sz := by simp at h1; omega
                    rw [List.getElem?_take, if_pos h0, List.getElem?_drop, Nat.add_zero, Array.getElem?_toList]
                    exact Array.getElem?_eq_getElem hlt
            · exact ha.elim
        · exact ha.elim
      · exact ha.elim
    · exact ha.elim
  · exact ha.elim

theorem aIdx_sound (h : SRel E N A w0 m s a w) (T : TypeId) {x i : AV} {vx vi : Value} (hx : VRel w (okB A s.H m w) m s.H x vx) (hi : VRel w (okB A s.H m w) m s.H i vi)
    (ha : aIdx E T x i dst s k) : Res E N A w0 a dst k ((Instr.index T vx vi).run E.P w) := by
  unfold aIdx at ha
  split at ha
  · rename_i ti kk n hti
    have hd := desc_of hti
    split at ha
    · rename_i t hs
      rw [hs] at hd
      obtain ⟨c, ⟨h0, hc⟩, ha⟩ := ha
      cases hi with
      | d _ _ hi => cases hi with
        | int => cases hx with
          | d _ _ hx => cases hx with
            | str b =>
              refine Res.same h (v := .d (.int .u8 (c.toNat : Int))) ?_ (.d _ _ (.int _ _)) ha
              have hlt : n.toNat < b.size := by
                have := (List.getElem?_eq_some_iff.1 hc).1
                exact this
              have hb : b[n.toNat]? = some c := by
                rw [getElem?_pos b n.toNat hlt]
                have := List.getElem?_eq_some_iff.1 hc
                obtain ⟨h1, h2⟩ := this
                rw [← h2]; rfl
              simp [Instr.index, asIntOf, run_underlying hd, h0, hb]
    · exact ha.elim
  · exact ha.elim

theorem aLen_sound (h : SRel E N A w0 m s a w) (T ty : TypeId) {x : AV} {vx : Value} (hx : VRel w (okB A s.H m w) m s.H x vx) {Ts : Array TypeId} {vs : Array Value} (hT : Ts[0]? = some T) (hv : vs[0]? = some vx)
    (ha : aLen E T x dst s k) : Res E N A w0 a dst k ((Builtin.len_ Ts ty vs).run E.P w) := by
  unfold aLen at ha
  split at ha
  · rename_i ti hti
    have hd := desc_of hti
    split at ha
    · rename_i t hs
      rw [hs] at hd
      cases hx with
      | d _ _ hx => cases hx with
        | str b => exact Res.same h (by simp only [Builtin.len_, hT, hv]; simp [run_underlying hd, goInt]) (.d _ _ (.int _ _)) ha
    · rename_i e els hs
      rw [hs] at hd
      cases hx with
      | d _ _ hx => cases hx with
        | sl0 => exact Res.same h (by simp only [Builtin.len_, hT, hv]; simp [run_underlying hd, goInt]) (.d _ _ (.int _ _)) ha
        | sl => exact Res.same h (by simp only [Builtin.len_, hT, hv]; simp [run_underlying hd, goInt]) (.d _ _ (.int _ _)) ha
    · rename_i e hs
      rw [hs] at hd
      cases hx with
      | d _ _ hx => cases hx with
        | nil => exact Res.same h (by simp only [Builtin.len_, hT, hv]; simp [run_underlying hd, goInt]) (.d _ _ (.int _ _)) ha
    · rename_i e o off n hs
      rw [hs] at hd
      cases hx with
      | ref => exact Res.same h (by simp only [Builtin.len_, hT, hv]; simp [run_underlying hd, goInt]) (.d _ _ (.int _ _)) ha
      | ref0 => exact Res.same h (by simp only [Builtin.len_, hT, hv]; simp [run_underlying hd, goInt]) (.d _ _ (.int _ _)) ha
    · exact ha.elim
  · exact ha.elim

theorem aIdxAddr_sound (h : SRel E N A w0 m s a w) (T : TypeId) {x i : AV} {vx vi : Value} (hx : VRel w (okB A s.H m w) m s.H x vx) (hi : VRel w (okB A s.H m w) m s.H i vi)
    (ha : aIdxAddr E T x i dst s k) : Res E N A w0 a dst k ((Instr.indexAt T vx vi).run E.P w) := by
  unfold aIdxAddr at ha
  split at ha
  · rename_i ti kk n hti
    have hd := desc_of hti
    cases hi with
    | d _ _ hi => cases hi with
      | int =>
        split at ha
        · rename_i e he
          rw [he] at hd
          split at ha
          · rename_i ei hei
            have hs := sz_run hei w
            split at ha
            · rename_i els
              obtain ⟨c, ⟨h0, hc, hcl⟩, ha⟩ := ha
              cases hx with
              | d _ _ hx => cases hx with
                | sl0 => simp at hc
                | sl _ sz b off cap us hok hlc hcc hr =>
                  have hlt : n.toNat < els.length := (List.getElem?_eq_some_iff.1 hc).1
                  have hbd : 0 ≤ n ∧ n < (els.length : Int) := by omega
                  refine Res.same h (v := .fp c) (u := .pointer (some ⟨b, off + n.toNat * ei.sz, none⟩)) ?_ (.fp c b _ (fun q => us (n.toNat * sz + q)) hok fun q d hq => ?_) ha
                  · simp [Instr.indexAt, asIntOf, run_underlying hd, hbd, hs, Addr.add_lit]
                  · obtain ⟨h1, h2⟩ := hcc _ c hc
                    have hsz : ei.sz = sz := by omega
                    rw [hsz]
                    refine ⟨?_, hr _ c hc q d hq⟩
                    have := h2 q d hq
                    rw [← Nat.add_assoc] at this
                    exact this
            · rename_i o off len
              split at ha
              · rename_i e2 sz els hH
                cases hb : Nat.beq sz ei.sz with
                | false => rw [hb] at ha; exact ha.elim
                | true =>
                  rw [hb] at ha
                  have hsz : sz = ei.sz := Nat.eq_of_beq_eq_true hb
                  simp only [cond_true] at ha
                  obtain ⟨⟨h0, h1⟩, ha⟩ := ha
                  cases hx with
                  | ref _ _ _ e3 sz3 els3 b full cap hH3 hn hm hcap hnc =>
                    rw [hH] at hH3
                    injection hH3 with hH3
                    injection hH3 with i1 i2 i3
                    subst i1; subst i2; subst i3
                    refine Res.same h (v := .eptr o (off + n.toNat) 0) (u := .pointer (some ⟨b, (off + n.toNat) * sz + 0, none⟩)) ?_ (.eptr o _ 0 e2 sz els b full hH (by omega) hm) ha
                    have : (off + n.toNat) * sz + 0 = off * sz + n.toNat * ei.sz := by rw [Nat.add_mul, hsz]; omega
                    rw [this]
                    simp [Instr.indexAt, asIntOf, run_underlying hd, h0, h1, hs, Addr.add_lit]
                  | ref0 => omega
              · exact ha.elim
            · exact ha.elim
          · exact ha.elim
        · rename_i len e he
          rw [he] at hd
          split at ha
          · rename_i ei hei
            have hs := sz_run hei w
            cases hb : Nat.ble len 1 with
            | true => rw [hb] at ha; exact ha.elim
            | false =>
              rw [hb] at ha
              simp only [cond_false] at ha
              split at ha
              · rename_i o off
                obtain ⟨⟨h0, h1⟩, ha⟩ := ha
                cases hx with
                | ptr _ _ e3 cs b full hH hm =>
                  refine Res.same h (v := .ptr o _) (u := .pointer (some ⟨b, off + n.toNat * ei.sz, none⟩)) ?_ (.ptr o _ e3 cs b full hH hm) ha
                  simp [Instr.indexAt, Instr.sureAddr, asIntOf, run_underlying hd, h0, h1, hs, Addr.add_lit]
              · rename_i cs
                obtain ⟨⟨h0, h1⟩, ha⟩ := ha
                cases hx with
                | fp _ b off us hok hc =>
                  refine Res.same h (v := .fp _) (u := .pointer (some ⟨b, off + n.toNat * ei.sz, none⟩)) ?_ (.fp _ b _ (fun q => us (n.toNat * ei.sz + q)) hok fun q d hq => ?_) ha
                  · simp [Instr.indexAt, Instr.sureAddr, asIntOf, run_underlying hd, h0, h1, hs, Addr.add_lit]
                  · rw [List.getElem?_drop] at hq
                    have := hc _ d hq
                    rw [← Nat.add_assoc] at this
                    exact this
              · exact ha.elim
          · exact ha.elim
        · exact ha.elim
  · exact ha.elim

end
end Ai
