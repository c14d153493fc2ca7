import Derived.Test.YtmcammamjbfkfaaGreatDoorAiSt
import Derived.Laws.Cells
import Derived.Laws.CopyRow
import Derived.Laws.Entries
import Derived.Laws.Tables
import Derived.Laws.Rows
import Derived.Laws.MakeOwn
import Derived.Laws.Slices
import Derived.Laws.Strings
set_option maxHeartbeats 1000000
set_option linter.unusedVariables false
set_option linter.unusedSimpArgs false
namespace Ai
open Go Go.RowKit

section
variable {E : Env} {N : Nat} {A : Nat → Prop} {w0 w w' : World} {m m' : Own} {s s' : St} {a : Act} {dst : Option Tmp} {k : St → Prop}

/-- The operation gives a value, and all is well behind it. -/
def Res (E : Env) (N : Nat) (A : Nat → Prop) (w0 : World) (a : Act) (dst : Option Tmp) (k : St → Prop) (r : Result Value) : Prop :=
  ∃ v w', r = .ok v w' ∧ ∃ m' s', SRel E N A w0 m' s' (a.put dst v) w' ∧ k s'

theorem Res.same (h : SRel E N A w0 m s a w) {v : AV} {u : Value} {r : Result Value} (hr : r = .ok u w) (hv : VRel w (okB A s.H m w) m s.H v u) (hk : k (put dst v s)) : Res E N A w0 a dst k r :=
  ⟨u, w, hr, m, _, h.put dst hv, hk⟩

theorem Res.kb (h : SRel E N A w0 m s a w) {c : Bool} {r : Result Value} (hr : r = .ok (.bool c) w) (hk : kb dst s k c) : Res E N A w0 a dst k r := by
  refine Res.same h (v := .d (.bool c)) hr (.d _ _ (.bool c)) ?_
  cases c with
  | true => exact hk.1 rfl
  | false => exact hk.2 rfl

/-! ### types -/
theorem sz_run {t : TypeId} {ti : TI} (h : E.Θ t = some ti) (w : World) : (Go.sizeOf t).run E.P w = .ok ti.sz w := by
  obtain ⟨i, z, hi, hs, hb, hz, hc⟩ := (E.hΘ t ti h).info
  simp [Go.sizeOf, typeInfo, hi, hs]
theorem agg_run {t : TypeId} {ti : TI} (h : E.Θ t = some ti) (w : World) : (isAgg t).run E.P w = .ok ti.agg w := by
  obtain ⟨u, hu, ha⟩ := (E.hΘ t ti h).agg
  rw [← ha]
  simp only [isAgg, Sem.run_bind, run_underlying hu, Result.andThen_ok]
  cases u <;> rfl
theorem zero_run {t : TypeId} {ti : TI} (h : E.Θ t = some ti) (w : World) : ∃ z, (zeroValue t).run E.P w = .ok z w ∧ z.cells = (ti.zero.map rawD).toArray := by
  obtain ⟨i, z, hi, hs, hb, hz, hc⟩ := (E.hΘ t ti h).info
  exact ⟨z, by simp [zeroValue, typeInfo, hi, hz], hc⟩
theorem zero_rep {t : TypeId} {ti : TI} (h : E.Θ t = some ti) {w : World} {ok : Nat → Prop} {d : D} (hd : d ∈ ti.zero) : RepD w ok d (rawD d) :=
  rep_raw (List.all_eq_true.1 (E.hΘ t ti h).plain d hd)

/-! ### memory read -/
theorem mkVal_rel {ok : Nat → Prop} {H : Nat → Option Ob} {ti : TI} {cs : List AV} {v : AV} {us : List Value} (hl : cs.length = us.length)
    (h : ∀ (i : Nat) (c : AV) (u : Value), cs[i]? = some c → us[i]? = some u → VRel w ok m H c u) (hv : mkVal ti cs = some v) :
    (ti.agg = true ∧ VRel w ok m H v (.agg us.toArray)) ∨ (ti.agg = false ∧ us.length = 1 ∧ ∀ u, us[0]? = some u → VRel w ok m H v u) := by
  unfold mkVal at hv
  cases ha : ti.agg with
  | true =>
    rw [ha] at hv
    simp only [cond_true, Option.some.injEq] at hv
    subst hv
    exact .inl ⟨rfl, .agg cs us.toArray (by simpa using hl) (fun i c u hc hu => h i c u hc (by simpa using hu))⟩
  | false =>
    rw [ha] at hv
    simp only [cond_false] at hv
    split at hv
    · rename_i c
      cases hv
      refine .inr ⟨rfl, by simpa using hl.symm, fun u hu => h 0 v u rfl hu⟩
    · cases hv

theorem load_run {t : TypeId} {ti : TI} (ht : E.Θ t = some ti) (b off : Nat) {ok : Nat → Prop} {H : Nat → Option Ob} {cs : List AV} {v : AV} (hl : cs.length = ti.sz)
    (h : ∀ (i : Nat) (c : AV), cs[i]? = some c → ∃ u, w.cell? ⟨b, off + i, none⟩ = some u ∧ VRel w ok m H c u) (hv : mkVal ti cs = some v) :
    ∃ u, (Instr.loadAt t (.pointer (some ⟨b, off, none⟩))).run E.P w = .ok u w ∧ VRel w ok m H v u := by
  -- the cells
  have hcell : ∀ i, i < cs.length → ∃ u, w.cell? ⟨b, off + i, none⟩ = some u ∧ ∀ c, cs[i]? = some c → VRel w ok m H c u := by
    intro i hi
    obtain ⟨u, hu, hr⟩ := h i cs[i] (List.getElem?_eq_getElem hi)
    exact ⟨u, hu, fun c hc => by rw [List.getElem?_eq_getElem hi] at hc; cases hc; exact hr⟩
  let f : Nat → Value := fun i => (w.cell? ⟨b, off + i, none⟩).getD undef
  have hf : ∀ i, i < cs.length → w.cell? ⟨b, off + i, none⟩ = some (f i) := by
    intro i hi
    obtain ⟨u, hu, _⟩ := hcell i hi
    simp [f, hu]
  have hfr : ∀ i c, cs[i]? = some c → VRel w ok m H c (f i) := by
    intro i c hc
    have hi : i < cs.length := (List.getElem?_eq_some_iff.1 hc).1
    obtain ⟨u, hu, hr⟩ := hcell i hi
    have : f i = u := by simp [f, hu]
    rw [this]; exact hr c hc
  have hus : ∀ (i : Nat) (c : AV) (u : Value), cs[i]? = some c → (((List.range cs.length).map f))[i]? = some u → VRel w ok m H c u := by
    intro i c u hc hu
    have hi : i < cs.length := (List.getElem?_eq_some_iff.1 hc).1
    rw [List.getElem?_map, List.getElem?_range hi] at hu
    simp only [Option.map_some, Option.some.injEq] at hu
    subst hu
    exact hfr i c hc
  rcases mkVal_rel (us := (List.range cs.length).map f) (by simp) hus hv with ⟨ha, hr⟩ | ⟨ha, h1, hr⟩
  · refine ⟨_, ?_, hr⟩
    have hld := run_loadCells (P := E.P) w ⟨b, off, none⟩ cs.length f (fun j hj => by rw [Addr.add_lit]; exact hf j hj)
    rw [hl] at hld ⊢
    simp [Instr.loadAt, Instr.sureAddr, loadVar, agg_run ht, sz_run ht, ha, hld]
  · have h1' : cs.length = 1 := by simpa using h1
    have hc0 := hf 0 (by omega)
    simp only [Nat.add_zero] at hc0
    refine ⟨f 0, ?_, hr _ (by simp [h1'])⟩
    simp [Instr.loadAt, Instr.sureAddr, loadVar, agg_run ht, ha, hc0]

theorem ldCells_rel (h : SRel E N A w0 m s a w) {x : AV} {vx : Value} (hx : VRel w (okB A s.H m w) m s.H x vx) {n : Nat} {cs : List AV} (hc : ldCells s x n = some cs) :
    ∃ b off, vx = .pointer (some ⟨b, off, none⟩) ∧ cs.length = n ∧ ∀ (i : Nat) (c : AV), cs[i]? = some c → ∃ u, w.cell? ⟨b, off + i, none⟩ = some u ∧ VRel w (okB A s.H m w) m s.H c u := by
  cases hx with
  | fp ds b off us hok hd =>
    simp only [ldCells] at hc
    cases hb : Nat.ble n ds.length with
    | false => rw [hb] at hc; cases hc
    | true =>
      rw [hb] at hc
      simp only [cond_true, Option.some.injEq] at hc
      subst hc
      have hle : n ≤ ds.length := Nat.le_of_ble_eq_true hb
      refine ⟨b, off, rfl, by simp; omega, fun i c hi => ?_⟩
      simp only [List.getElem?_map, Option.map_eq_some_iff] at hi
      obtain ⟨d, hd2, rfl⟩ := hi
      have hi2 : i < n := by
        have := (List.getElem?_eq_some_iff.1 hd2).1
        simp at this; omega
      have : ds[i]? = some d := by rw [List.getElem?_take] at hd2; rw [if_pos hi2] at hd2; exact hd2
      obtain ⟨h1, h2⟩ := hd i d this
      exact ⟨us i, h1, .d _ _ h2⟩
  | ptr o off e cs0 b full hH hm =>
    simp only [ldCells, hH] at hc
    cases hb : Nat.ble (off + n) cs0.length with
    | false => rw [hb] at hc; cases hc
    | true =>
      rw [hb] at hc
      simp only [cond_true, Option.some.injEq] at hc
      subst hc
      have hle : off + n ≤ cs0.length := Nat.le_of_ble_eq_true hb
      obtain ⟨b', full', cur, hm', hbb, hcur, hsz, hcells⟩ := h.objs o _ hH
      rw [hm] at hm'
      injection hm' with hm'
      injection hm' with e1 e2
      subst e1; subst e2
      refine ⟨b, off, rfl, by simp; omega, fun i c hi => ?_⟩
      have hi2 : i < n := by
        have := (List.getElem?_eq_some_iff.1 hi).1
        simp at this; omega
      have hi3 : cs0[off + i]? = some c := by
        rw [List.getElem?_take, if_pos hi2, List.getElem?_drop] at hi; exact hi
      obtain ⟨u, hu, hv⟩ := hcells _ c hi3
      exact ⟨u, by simp [World.cell?, hcur, hu], hv⟩
  | _ => simp [ldCells] at hc

theorem aLoad_sound (h : SRel E N A w0 m s a w) {t : TypeId} {x : AV} {vx : Value} (hx : VRel w (okB A s.H m w) m s.H x vx) (ha : aLoad E t x dst s k) :
    Res E N A w0 a dst k ((Instr.loadAt t vx).run E.P w) := by
  unfold aLoad at ha
  split at ha
  · rename_i ti hti
    split at ha
    · rename_i o j off
      split at ha
      · rename_i e sz els hH
        obtain ⟨c, ⟨hc, hle⟩, ha⟩ := ha
        split at ha
        · rename_i v hv
          cases hx with
          | eptr _ _ _ e' sz' els' b full hH' hj hm =>
            rw [hH] at hH'
            injection hH' with hH'
            injection hH' with e1 e2 e3
            subst e1; subst e2; subst e3
            obtain ⟨hm', hnil⟩ | ⟨b', full', cur, hm', hbb, hcur, hlen, hmax, hsz, hcells⟩ := h.objs o _ hH
            · rw [hm] at hm'; cases hm'
            · rw [hm] at hm'
              injection hm' with hm'
              injection hm' with e1 e2
              subst e1; subst e2
              obtain ⟨hl1, hcl⟩ := hcells j c hc
              have key : ∀ (i : Nat) (cc : AV), (((c.drop off).take ti.sz).map AV.d)[i]? = some cc → ∃ u, w.cell? ⟨b, (j * sz + off) + i, none⟩ = some u ∧ VRel w (okB A s.H m w) m s.H cc u := by
                intro i cc hi
                simp only [List.getElem?_map, Option.map_eq_some_iff] at hi
                obtain ⟨d, hd2, rfl⟩ := hi
                have hi2 : i < ti.sz := by
                  have := (List.getElem?_eq_some_iff.1 hd2).1
                  simp at this; omega
                have hi3 : c[off + i]? = some d := by
                  rw [List.getElem?_take, if_pos hi2, List.getElem?_drop] at hd2; exact hd2
                obtain ⟨u, hu, hr⟩ := hcl _ d hi3
                exact ⟨u, by simp [World.cell?, hcur, Nat.add_assoc, hu], .d _ _ hr⟩
              obtain ⟨u, hu, hr⟩ := load_run (E := E) (w := w) hti b (j * sz + off) (by simp; omega) key hv
              exact Res.same h hu hr ha
        · exact ha.elim
      · exact ha.elim
    · split at ha
      · rename_i cs hcs
        obtain ⟨b, off, rfl, hl, hcl⟩ := ldCells_rel h hx hcs
        split at ha
        · rename_i v hv
          rw [kv_eq] at ha
          obtain ⟨u, hu, hr⟩ := load_run (E := E) (w := w) hti b off hl hcl hv
          exact Res.same h hu hr ha
        · exact ha.elim
      · exact ha.elim
  · exact ha.elim

end
end Ai
