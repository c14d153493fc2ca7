import Derived.Test.YtmcammamjbfkfaaGreatDoorAiMem2
import Derived.Maps.AppendAt
set_option maxHeartbeats 1000000
set_option linter.unusedVariables false
set_option linter.unusedSimpArgs false
namespace Ai
open Go Go.RowKit
section
variable {E : Env} {N : Nat} {A : Nat → Prop} {w0 w w' : World} {m m' : Own} {s s' : St} {a : Act} {dst : Option Tmp} {k : St → Prop}

theorem desc_bytes {T : TypeId} {ti : TI} (h : E.Θ T = some ti) : ∃ i z, E.P.info? T = some i ∧ i.size = ti.sz ∧ i.bytes = ti.bytes ∧ i.zero = some z ∧ z.cells = (ti.zero.map rawD).toArray := (E.hΘ T ti h).info

theorem aMake_sound (h : SRel E N A w0 m s a w) (T : TypeId) {l c : AV} {vl vc : Value} (hl : VRel w (okB A s.H m w) m s.H l vl) (hc : VRel w (okB A s.H m w) m s.H c vc)
    (ha : aMake E T l c dst s k) : Res E N A w0 a dst k ((Instr.makeSlice T vl vc).run E.P w) := by
  unfold aMake at ha
  split at ha
  · rename_i ti t k1 n k2 cap hti
    have hd := desc_of hti
    split at ha
    · rename_i e he
      rw [he] at hd
      split at ha
      · rename_i ei hei
        cases hz : Nat.beq ei.sz 0 with
        | true => rw [hz] at ha; exact ha.elim
        | false =>
          rw [hz] at ha
          have hnz : ei.sz ≠ 0 := fun e => by rw [e] at hz; cases hz
          simp only [cond_false] at ha
          obtain ⟨⟨h0, h1, h2, h3⟩, ha⟩ := ha
          obtain ⟨i, z, hi, hs, hb, hzz, hzc⟩ := desc_bytes hei
          cases hl with
          | d _ _ hl => cases hl with
            | int => cases hc with
              | d _ _ hc => cases hc with
                | int =>
                  have hrun := run_make (P := E.P) w T e i z hd hi hzz k1 k2 n cap h0 h1 (by rw [hb]; omega) (by omega)
                  have hzsz : z.cells.size = ei.sz := by rw [hzc]; simp; exact (E.hΘ e ei hei).zlen
                  have hS := h.new (κ := t) (full := cap.toNat) (ob := .ds e ei.sz (List.replicate n.toNat ei.zero)) (o' := .cells (madeCells z.cells (cap.toNat * i.size)) e)
                    (.inr ⟨w.heap.size, cap.toNat, _, updM_self _ _ _, h.below.size, heap_alloc_new w _, by simp; omega, by simp only [maxLen]; omega, by rw [size_madeCells, hs], fun j c hj => by
                      rw [List.getElem?_replicate] at hj
                      split at hj
                      · rename_i hjn
                        injection hj with hj; subst hj
                        refine ⟨(E.hΘ e ei hei).zlen, fun q d hq => ⟨rawD d, ?_, zero_rep hei (List.mem_of_getElem? hq)⟩⟩
                        have hq2 : q < ei.sz := by have := (List.getElem?_eq_some_iff.1 hq).1; rw [(E.hΘ e ei hei).zlen] at this; exact this
                        have hjc : j < cap.toNat := by omega
                        have hlt : j * ei.sz + q < cap.toNat * i.size := by
                          rw [hs]
                          have : (j + 1) * ei.sz ≤ cap.toNat * ei.sz := Nat.mul_le_mul_right _ hjc
                          rw [Nat.add_mul, Nat.one_mul] at this; omega
                        have hmod : (j * ei.sz + q) % z.cells.size = q := by rw [hzsz, Nat.mul_comm, Nat.mul_add_mod]; exact Nat.mod_eq_of_lt hq2
                        have hg : z.cells[q]? = some (rawD d) := by rw [hzc]; simp [hq]
                        have hq3 : q < z.cells.size := by omega
                        unfold madeCells
                        rw [Array.getElem?_map, Array.getElem?_range, if_pos hlt]
                        simp only [Option.map_some, hmod]
                        congr 1
                        rw [getElem!_pos z.cells q hq3]
                        rw [Array.getElem?_eq_getElem hq3] at hg
                        injection hg
                      · cases hj⟩)
                  refine ⟨_, _, hrun, _, _, hS.put _ (v := .ref t 0 n.toNat) ?_, ha⟩
                  have := VRel.ref (w := w.alloc (.cells (madeCells z.cells (cap.toNat * i.size)) e)) (ok := okB A (s.new t (.ds e ei.sz (List.replicate n.toNat ei.zero))).H (updM m t (some (w.heap.size, cap.toNat))) (w.alloc (.cells (madeCells z.cells (cap.toNat * i.size)) e))) (m := updM m t (some (w.heap.size, cap.toNat))) (H := (s.new t (.ds e ei.sz (List.replicate n.toNat ei.zero))).H) t 0 n.toNat e ei.sz (List.replicate n.toNat ei.zero) w.heap.size cap.toNat cap.toNat
                    (by simp [St.new, St.setH, nbeq_self, scrO]) (by simp) (updM_self _ _ _) (fun _ => rfl) (by omega)
                  rw [Nat.zero_mul] at this
                  exact this
      · exact ha.elim
    · exact ha.elim
  · exact ha.elim

theorem boundOf_rel {d : Int} {x : Option AV} {vx : Option Value} {ok : Nat → Prop} {H : Nat → Option Ob} (hx : ∀ v, x = some v → ∃ u, vx = some u ∧ VRel w ok m H v u) (hn : x = none → vx = none) {l : Int} (h : boundOf d x = some l) :
    (vx = none ∧ l = d) ∨ ∃ kk, vx = some (.int kk l) := by
  unfold boundOf at h
  split at h
  · injection h with h
    exact .inl ⟨hn rfl, h.symm⟩
  · rename_i kk n
    injection h with h
    subst h
    obtain ⟨u, hu, hr⟩ := hx _ rfl
    cases hr with
    | d _ _ hr => cases hr with
      | int => exact .inr ⟨_, hu⟩
  · cases h

theorem sliceBounds_run (isS : Bool) (len cap : Nat) (lo hi : Option Value) (l h : Int) (hl : (lo = none ∧ l = 0) ∨ ∃ kk, lo = some (.int kk l)) (hh : (hi = none ∧ h = len) ∨ ∃ kk, hi = some (.int kk h))
    (h0 : 0 ≤ l) (h1 : l ≤ h) (h2 : h ≤ cap) : (Instr.sliceBounds isS len cap lo hi none).run E.P w = .ok (l.toNat, h.toNat, cap) w := by
  have eh : ((h.toNat : Nat) : Int) = h := Int.toNat_of_nonneg (by omega)
  rcases hh with ⟨rfl, rfl⟩ | ⟨kh, rfl⟩
  · rcases hl with ⟨rfl, rfl⟩ | ⟨kl, rfl⟩
    · simp [Instr.sliceBounds]
    · simp [Instr.sliceBounds, run_sliceBound, h0, h1]
  · rcases hl with ⟨rfl, rfl⟩ | ⟨kl, rfl⟩
    · simp [Instr.sliceBounds, run_sliceBound, h1, h2]
    · simp [Instr.sliceBounds, run_sliceBound, h0, h1, h2, eh, (by omega : 0 ≤ h)]

theorem aSlice_sound (h : SRel E N A w0 m s a w) (T : TypeId) {x : AV} {vx : Value} {lo hi mx : Option AV} {vlo vhi vmx : Option Value} (hx : VRel w (okB A s.H m w) m s.H x vx)
    (hlo : ∀ v, lo = some v → ∃ u, vlo = some u ∧ VRel w (okB A s.H m w) m s.H v u) (hlo0 : lo = none → vlo = none)
    (hhi : ∀ v, hi = some v → ∃ u, vhi = some u ∧ VRel w (okB A s.H m w) m s.H v u) (hhi0 : hi = none → vhi = none) (hmx0 : mx = none → vmx = none)
    (ha : aSlice E T x lo hi mx dst s k) : Res E N A w0 a dst k ((Instr.sliceAt T vx vlo vhi vmx).run E.P w) := by
  unfold aSlice at ha
  split at ha
  · rename_i ti l hti hbl
    have hd := desc_of hti
    have hmx := hmx0 rfl
    subst hmx
    have hL := boundOf_rel hlo hlo0 hbl
    split at ha
    · rename_i t hs
      rw [hs] at hd
      split at ha
      · rename_i hh hbh
        obtain ⟨⟨h0, h1, h2⟩, ha⟩ := ha
        have hH := boundOf_rel hhi hhi0 hbh
        cases hx with
        | d _ _ hx => cases hx with
          | str b =>
            have hsz : b.data.toList.length = b.size := rfl
            have hb := sliceBounds_run (E := E) (w := w) false b.size b.size vlo vhi l hh hL (by rw [hsz] at hH; exact hH) h0 h1 (by omega)
            refine Res.same h (v := .d (.str ((b.data.toList.drop l.toNat).take (hh.toNat - l.toNat)))) (u := .string (b.extract l.toNat hh.toNat)) ?_ (.d _ _ ?_) ha
            · simp [Instr.sliceAt, Instr.slice, run_underlying hd, hb]
            · have := RepD.str (w := w) (ok := okB A s.H m w) (b.extract l.toNat hh.toNat)
              have he : (b.extract l.toNat hh.toNat).data.toList = (b.data.toList.drop l.toNat).take (hh.toNat - l.toNat) := by
                rw [ByteArray.data_extract]; simp [List.drop_take]
              rw [he] at this; exact this
      · exact ha.elim
    · rename_i e els he
      rw [he] at hd
      split at ha
      · rename_i ei hh hei hbh
        obtain ⟨⟨h0, h1, h2, hsz⟩, ha⟩ := ha
        have hH := boundOf_rel hhi hhi0 hbh
        have hs := sz_run hei w
        cases hx with
        | d _ _ hx => cases hx with
          | sl0 ad cap =>
            have hl0 : l = 0 := by simp at h2; omega
            have hh0 : hh = 0 := by simp at h2; omega
            subst hl0; subst hh0
            have hb := sliceBounds_run (E := E) (w := w) true 0 cap vlo vhi 0 0 hL (by simpa using hH) (Int.le_refl _) (Int.le_refl _) (by omega)
            refine Res.same h (u := .slice (if cap = 0 then ad else ad.map (·.add (0 * ei.sz))) 0 cap) ?_ (.d _ _ ?_) ha
            · simp [Instr.sliceAt, Instr.slice, run_underlying hd, hb, hs]
            · simp only [List.drop_nil, List.take_nil]; exact .sl0 _ _
          | sl _ sz b off cap us hok hlc hcc hr =>
            have hb := sliceBounds_run (E := E) (w := w) true els.length cap vlo vhi l hh hL hH h0 h1 (by omega)
            refine Res.same h (u := .slice (if cap = l.toNat then some ⟨b, off, none⟩ else some ⟨b, off + l.toNat * ei.sz, none⟩) (hh.toNat - l.toNat) (cap - l.toNat)) ?_ (.d _ _ ?_) ha
            · simp [Instr.sliceAt, Instr.slice, run_underlying hd, hb, hs, Addr.add_lit]
            · by_cases hz : hh.toNat - l.toNat = 0
              · rw [hz, List.take_zero]; exact .sl0 _ _
              · have hne : cap ≠ l.toNat := by omega
                rw [if_neg hne]
                have hlen : ((els.drop l.toNat).take (hh.toNat - l.toNat)).length = hh.toNat - l.toNat := by simp; omega
                have hpos : 0 < els.length := by omega
                have hszz : ei.sz = sz := by
                  have h1 := (hcc 0 els[0] (List.getElem?_eq_getElem hpos)).1
                  have h2 := hsz els[0] (List.getElem_mem hpos)
                  omega
                have hget : ∀ (j : Nat) (c : List D), ((els.drop l.toNat).take (hh.toNat - l.toNat))[j]? = some c → els[l.toNat + j]? = some c := by
                  intro j c hj
                  have hj2 : j < hh.toNat - l.toNat := by have := (List.getElem?_eq_some_iff.1 hj).1; omega
                  rw [List.getElem?_take, if_pos hj2, List.getElem?_drop] at hj
                  exact hj
                have := RepD.sl (w := w) (ok := okB A s.H m w) ((els.drop l.toNat).take (hh.toNat - l.toNat)) sz b (off + l.toNat * sz) (cap - l.toNat) (fun q => us (l.toNat * sz + q)) hok (by omega)
                  (fun j c hj => ⟨(hcc _ c (hget j c hj)).1, fun q d hq => by
                    have := (hcc _ c (hget j c hj)).2 q d hq
                    rw [Nat.add_mul] at this
                    rw [show off + l.toNat * sz + (j * sz + q) = off + (l.toNat * sz + j * sz + q) from by omega, show l.toNat * sz + (j * sz + q) = l.toNat * sz + j * sz + q from by omega]
                    exact this⟩)
                  (fun j c hj q d hq => by
                    have := hr _ c (hget j c hj) q d hq
                    rw [Nat.add_mul] at this
                    rw [show l.toNat * sz + (j * sz + q) = l.toNat * sz + j * sz + q from by omega]
                    exact this)
                rw [hlen] at this
                rw [hszz]; exact this
      · exact ha.elim
    · rename_i e o off len he
      rw [he] at hd
      split at ha
      · rename_i ei e2 sz els hh hei hHo hbh
        cases hb0 : Nat.beq ei.sz sz with
        | false => rw [hb0] at ha; exact ha.elim
        | true =>
          rw [hb0] at ha
          have hszz : ei.sz = sz := Nat.eq_of_beq_eq_true hb0
          simp only [cond_true] at ha
          obtain ⟨⟨h0, h1, h2, h3⟩, ha⟩ := ha
          have hH := boundOf_rel hhi hhi0 hbh
          have hs := sz_run hei w
          cases hx with
          | ref _ _ _ e3 sz3 els3 b full cap hH3 hn hm hcap hnc =>
            rw [hHo] at hH3
            injection hH3 with hH3
            injection hH3 with i1 i2 i3
            subst i1; subst i2; subst i3
            have hb := sliceBounds_run (E := E) (w := w) true len cap vlo vhi l hh hL hH h0 h1 (by omega)
            refine Res.same h (u := .slice (some ⟨b, (off + l.toNat) * sz, none⟩) (hh.toNat - l.toNat) (cap - l.toNat)) ?_ (.ref o _ _ e2 sz els b full _ hHo (by omega) hm (fun hz => ?_) (by omega)) ha
            · simp only [Instr.sliceAt, Instr.slice, Sem.run_bind, run_underlying hd, Result.andThen_ok, hb, hs, Sem.run_pure]
              congr 2
              by_cases hz : l = 0
              · subst hz; simp [Addr.add_lit]
              · have hne : cap ≠ l.toNat := by omega
                rw [if_neg hne]
                simp [Addr.add_lit, hszz, Nat.add_mul]
            · have : off = 0 := by omega
              have := hcap this
              omega
          | ref0 _ e4 sz4 hH4 hm4 =>
            have hl0 : l = 0 := by omega
            have hh0 : hh = 0 := by omega
            subst hl0; subst hh0
            have hb := sliceBounds_run (E := E) (w := w) true 0 0 vlo vhi 0 0 hL hH (Int.le_refl _) (Int.le_refl _) (Int.le_refl _)
            refine Res.same h (u := .slice none 0 0) ?_ (.ref0 o e4 sz4 hH4 hm4) ha
            simp [Instr.sliceAt, Instr.slice, run_underlying hd, hb, hs]
      · exact ha.elim
    · exact ha.elim
  · exact ha.elim

end
end Ai
