import Derived.Test.YtmcammamjbfkfaaGreatDoorAiArith
set_option maxHeartbeats 1000000
set_option linter.unusedVariables false
set_option linter.unusedSimpArgs false
namespace Ai
open Go Go.RowKit
section
variable {E : Env} {N : Nat} {A : Nat → Prop} {w0 w w' : World} {m m' : Own} {s s' : St} {a : Act} {dst : Option Tmp} {k : St → Prop}

theorem newRow_run (e : TypeId) (cells : Array Value) (w : World) : (newRow e cells).run E.P w = .ok ⟨w.heap.size, 0, none⟩ (w.alloc (.cells cells e)) := by
  simp only [newRow, Sem.run_bind, run_newObj, Result.andThen_ok]; rfl

theorem okB_new (h : SRel E N A w0 m s a w) (κ full : Nat) (ob : Ob) (o' : Obj) : ∀ b, okB A s.H m w b → okB A (s.new κ ob).H (updM m κ (some (w.heap.size, full))) (w.alloc o') b ∧ (w.alloc o').heap[b]? = w.heap[b]? := by
  intro b hb
  refine ⟨⟨by have := hb.1; show b < (w.heap.push o').size; rw [Array.size_push]; omega, fun o ho p hp => ?_, hb.2.2⟩, heap_push_lt w o' b hb.1⟩
  by_cases hne : o = κ
  · subst hne
    rw [updM_self] at hp
    injection hp with hp; subst hp
    have := hb.1; simp; omega
  · rw [updM_ne m _ hne] at hp
    refine hb.2.1 o (fun hh => ho ?_) p hp
    simp [St.new, St.setH, St.kill, nbeq_ne hne, hh]

theorem likeBut_new (κ full : Nat) (ob : Ob) : LikeBut κ s.H (s.new κ ob).H m (updM m κ (some (w.heap.size, full))) := by
  constructor
  · intro o e cs hne ho
    exact ⟨⟨scrL κ cs, by simp [St.new, St.setH, St.kill, nbeq_ne hne, ho, scrO]⟩, updM_ne m _ hne⟩
  · intro o e sz els hne ho
    exact ⟨⟨els, by simp [St.new, St.setH, St.kill, nbeq_ne hne, ho, scrO], rfl⟩, updM_ne m _ hne⟩

/-- A new variable, its cells being known. -/
theorem new_vs (h : SRel E N A w0 m s a w) (κ : Nat) (T : TypeId) {cs : List AV} {us : Array Value} (hl : cs.length = us.size)
    (hc : ∀ (i : Nat) (c : AV) (u : Value), cs[i]? = some c → us[i]? = some u → VRel w (okB A s.H m w) m s.H c u) :
    SRel E N A w0 (updM m κ (some (w.heap.size, 1))) (s.new κ (.vs T cs)) a (w.alloc (.cells us T)) := by
  refine h.new κ 1 (.vs T cs) _ ⟨w.heap.size, 1, us, updM_self _ _ _, h.below.size, heap_alloc_new w _, by rw [scrL_length]; exact hl.symm, fun i c hi => ?_⟩
  rw [scrL_get] at hi
  obtain ⟨c0, hc0, rfl⟩ := Option.map_eq_some_iff.1 hi
  have hi2 : i < us.size := by
    have := (List.getElem?_eq_some_iff.1 hc0).1; omega
  exact ⟨us[i], Array.getElem?_eq_getElem hi2, (hc i c0 _ hc0 (Array.getElem?_eq_getElem hi2)).scr (okB_new h κ 1 _ _) (likeBut_new κ 1 _)⟩

theorem ptr_new (κ full : Nat) (T : TypeId) (cs : List AV) (ok : Nat → Prop) : VRel w' ok (updM m κ (some (w.heap.size, full))) (s.new κ (.vs T cs)).H (.ptr κ 0) (.pointer (some ⟨w.heap.size, 0, none⟩)) :=
  .ptr κ 0 T (scrL κ cs) w.heap.size full (by simp [St.new, St.setH, nbeq_self, scrO]) (updM_self _ _ _)

theorem aAlloc_sound (h : SRel E N A w0 m s a w) (T : TypeId) (ti : TI) (t : Tmp) (hti : E.Θ T = some ti) (hd : dst = some t) (ha : k (put dst (.ptr t 0) (s.new t (.vs T (ti.zero.map .d))))) :
    Res E N A w0 a dst k ((Instr.alloc T true (.tuple #[])).run E.P w) := by
  obtain ⟨z, hz, hzc⟩ := zero_run hti w
  refine ⟨_, _, ?_, _, _, (new_vs h t T (cs := ti.zero.map .d) (us := z.cells) (by rw [hzc]; simp) (fun i c u hc hu => ?_)).put dst (ptr_new t 1 T _ _), ha⟩
  · simp [Instr.alloc, hz, newVar, newRow_run]
  · rw [hzc] at hu
    simp only [List.getElem?_map, Option.map_eq_some_iff] at hc
    obtain ⟨d, hd', rfl⟩ := hc
    simp only [List.getElem?_toArray, List.getElem?_map, hd', Option.map_some, Option.some.injEq] at hu
    subst hu
    exact .d _ _ (zero_rep hti (List.mem_of_getElem? hd'))

theorem cellsOf_rel {ok : Nat → Prop} {H : Nat → Option Ob} {x : AV} {vx : Value} (hx : VRel w ok m H x vx) {cs : List AV} (hc : cellsOf x = some cs) :
    cs.length = vx.cells.size ∧ (∀ u ∈ vx.cells.toList, u.oneCell' = true) ∧ ∀ (i : Nat) (c : AV) (u : Value), cs[i]? = some c → vx.cells[i]? = some u → VRel w ok m H c u := by
  have one : okCell x = true → some [x] = some cs → cs.length = vx.cells.size ∧ (∀ u ∈ vx.cells.toList, u.oneCell' = true) ∧ ∀ (i : Nat) (c : AV) (u : Value), cs[i]? = some c → vx.cells[i]? = some u → VRel w ok m H c u := by
    intro hok he
    injection he with he
    subst he
    obtain ⟨h1, h2⟩ := hx.oneCell hok
    rw [h2]
    refine ⟨rfl, by simpa using h1, fun i c u hc hu => ?_⟩
    cases i with
    | zero => simp at hc hu; subst hc; subst hu; exact hx
    | succ i => simp at hc
  cases x with
  | agg cs0 =>
    simp only [cellsOf] at hc
    cases ho : cs0.all okCell with
    | false => rw [ho] at hc; cases hc
    | true =>
      rw [ho] at hc
      simp only [cond_true, Option.some.injEq] at hc
      subst hc
      cases hx with
      | agg _ us hl hr =>
        refine ⟨hl, fun u hu => ?_, hr⟩
        obtain ⟨i, hi, rfl⟩ := List.getElem_of_mem hu
        have hi2 : i < us.size := by simpa [Value.cells] using hi
        have hi3 : i < cs0.length := by omega
        have hv := hr i cs0[i] us[i] (List.getElem?_eq_getElem hi3) (Array.getElem?_eq_getElem hi2)
        exact (hv.oneCell (List.all_eq_true.1 ho _ (List.getElem_mem hi3))).1
  | junk => simp [cellsOf, okCell] at hc
  | tup vs => simp [cellsOf, okCell] at hc
  | uq e sz els => simp [cellsOf, okCell] at hc
  | d x => exact one rfl (by simpa [cellsOf, okCell] using hc)
  | fp cs => exact one rfl (by simpa [cellsOf, okCell] using hc)
  | ref o off n => exact one rfl (by simpa [cellsOf, okCell] using hc)
  | ptr o off => exact one rfl (by simpa [cellsOf, okCell] using hc)
  | eptr o j off => exact one rfl (by simpa [cellsOf, okCell] using hc)
  | fn f caps => exact one rfl (by simpa [cellsOf, okCell] using hc)

theorem aBox_sound (h : SRel E N A w0 m s a w) (T : TypeId) (t : Tmp) {x : AV} {vx : Value} (hx : VRel w (okB A s.H m w) m s.H x vx) {cs : List AV} (hc : cellsOf x = some cs) (hd : dst = some t)
    (ha : k (put dst (.ptr t 0) (s.new t (.vs T cs)))) : Res E N A w0 a dst k ((Instr.box T vx).run E.P w) := by
  obtain ⟨h1, _, h2⟩ := cellsOf_rel hx hc
  refine ⟨_, _, ?_, _, _, (new_vs h t T h1 h2).put dst (ptr_new t 1 T _ _), ha⟩
  simp [Instr.box, newVar, newRow_run]

/-! ### stores -/
theorem splice_length {α : Type} : ∀ (cs : List α) (off : Nat) (xs : List α), off + xs.length ≤ cs.length → (splice cs off xs).length = cs.length
  | cs, 0, xs, h => by cases cs <;> simp [splice] at * <;> omega
  | c :: cs, off + 1, xs, h => by
    simp only [splice, List.length_cons]
    rw [splice_length cs off xs (by simp at h; omega)]
  | [], off + 1, xs, h => by simp at h
theorem splice_get {α : Type} : ∀ (cs : List α) (off : Nat) (xs : List α) (i : Nat), off + xs.length ≤ cs.length → (splice cs off xs)[i]? = if off ≤ i ∧ i < off + xs.length then xs[i - off]? else cs[i]?
  | cs, 0, xs, i, h => by
    have : splice cs 0 xs = xs ++ cs.drop xs.length := by cases cs <;> rfl
    rw [this]
    by_cases hi : i < xs.length
    · simp [hi, List.getElem?_append_left]
    · rw [List.getElem?_append_right (by omega), if_neg (by omega), List.getElem?_drop]
      congr 1; omega
  | c :: cs, off + 1, xs, 0, h => by simp [splice]
  | c :: cs, off + 1, xs, i + 1, h => by
    simp only [splice, List.getElem?_cons_succ]
    rw [splice_get cs off xs i (by simp at h; omega)]
    by_cases hi : off ≤ i ∧ i < off + xs.length
    · rw [if_pos hi, if_pos (by omega)]; congr 1; omega
    · rw [if_neg hi, if_neg (by omega)]
  | [], off + 1, xs, i, h => by simp at h

theorem below_setRow (h : SRel E N A w0 m s a w) {b : Nat} (hb : w0.heap.size ≤ b) (cs : Array Value) : Below w0.heap.size w0 (w.setRow b cs) :=
  ⟨h.below.os, h.below.tape, h.below.output, by rw [size_setRow]; exact h.below.size, fun j hj => by rw [setRow_other w b j cs (by omega)]; exact h.below.block j hj⟩

/-- The cells of a row behind a store. -/
theorem row_get (cur : Array Value) (o : Nat) (us : List Value) (h : o + us.length ≤ cur.size) (i : Nat) :
    ((cur.toList.take o ++ us ++ cur.toList.drop (o + us.length)).toArray)[i]? = if o ≤ i ∧ i < o + us.length then us[i - o]? else cur[i]? := by
  simp only [List.getElem?_toArray]
  by_cases h1 : i < o
  · rw [List.append_assoc, List.getElem?_append_left (by simp; omega), if_neg (by omega), List.getElem?_take, if_pos h1, Array.getElem?_toList]
  · by_cases h2 : i < o + us.length
    · rw [List.append_assoc, List.getElem?_append_right (by simp; omega), List.getElem?_append_left (by simp; omega), if_pos (by omega)]
      congr 1; simp; omega
    · rw [List.getElem?_append_right (by simp; omega), if_neg (by omega), List.getElem?_drop, Array.getElem?_toList]
      congr 1; simp; omega
theorem row_size (cur : Array Value) (o : Nat) (us : List Value) (h : o + us.length ≤ cur.size) : ((cur.toList.take o ++ us ++ cur.toList.drop (o + us.length)).toArray).size = cur.size := by
  simp; omega

theorem store_run {T : TypeId} {ti : TI} (hti : E.Θ T = some ti) {b off : Nat} {cur : Array Value} {e : TypeId} (hcur : w.heap[b]? = some (.cells cur e (0, 0))) {v : Value} (hl : v.cells.size = ti.sz) (hfit : off + v.cells.size ≤ cur.size)
    (h1 : ∀ u ∈ v.cells.toList, u.oneCell' = true) : (Instr.storeAt T (.pointer (some ⟨b, off, none⟩)) v).run E.P w = .ok () (w.setRow b (cur.toList.take off ++ v.cells.toList ++ cur.toList.drop (off + v.cells.toList.length)).toArray) := by
  have hst := run_storeCells_at E.P b off e v.cells.toList 0 cur w hcur (by simpa using hfit) h1
  simp only [Nat.add_zero] at hst
  simp [Instr.storeAt, Instr.sureAddr, storeVar, sz_run hti, hl, hst]

def ResU (E : Env) (N : Nat) (A : Nat → Prop) (w0 : World) (a : Act) (dst : Option Tmp) (k : St → Prop) (r : Result Unit) : Prop :=
  ∃ w', r = .ok () w' ∧ ∃ m' s', SRel E N A w0 m' s' (a.put dst undef) w' ∧ k s'

theorem undef_rel {ok : Nat → Prop} {H : Nat → Option Ob} : VRel w ok m H undefA undef := .tup [] #[] rfl (by simp)

theorem toDs_get : ∀ (cs : List AV) (xs : List D), toDs cs = some xs → xs.length = cs.length ∧ ∀ (i : Nat) (x : D), xs[i]? = some x → cs[i]? = some (.d x)
  | [], xs, h => by simp [toDs] at h; subst h; simp
  | c :: cs, xs, h => by
    simp only [toDs] at h
    cases hc : toD c with
    | none => simp [hc] at h
    | some x =>
      cases hr : toDs cs with
      | none => simp [hc, hr] at h
      | some ys =>
        simp only [hc, hr, Option.some.injEq] at h
        subst h
        obtain ⟨h1, h2⟩ := toDs_get cs ys hr
        have hcx : c = .d x := by cases c <;> simp [toD] at hc; rw [hc]
        refine ⟨by simp [h1], fun i y hy => ?_⟩
        cases i with
        | zero => simp at hy; subst hy; simp [hcx]
        | succ i => simp at hy ⊢; exact h2 i y hy

theorem setEl_length (els : List (List D)) (sz j off : Nat) (xs : List D) : (setEl els sz j off xs).length = els.length := by
  unfold setEl
  cases (Nat.beq off 0 && Nat.beq xs.length sz) <;> simp
theorem setEl_get (els : List (List D)) (sz j off : Nat) (xs : List D) (hsz : ∀ (i : Nat) (c : List D), els[i]? = some c → c.length = sz) (hfit : off + xs.length ≤ sz) (i : Nat) (c : List D) (h : (setEl els sz j off xs)[i]? = some c) :
    (i ≠ j ∧ els[i]? = some c) ∨ (i = j ∧ ∃ c0, els[i]? = some c0 ∧ c = splice c0 off xs) := by
  unfold setEl at h
  by_cases hij : i = j
  · subst hij
    refine .inr ⟨rfl, ?_⟩
    cases hb : (Nat.beq off 0 && Nat.beq xs.length sz) with
    | true =>
      rw [hb] at h
      simp only [cond_true] at h
      simp only [Bool.and_eq_true] at hb
      have ho : off = 0 := Nat.eq_of_beq_eq_true hb.1
      have hx : xs.length = sz := Nat.eq_of_beq_eq_true hb.2
      rw [List.getElem?_set] at h
      simp only [if_true] at h
      split at h
      · rename_i hlt
        injection h with h; subst h
        refine ⟨els[i], List.getElem?_eq_getElem hlt, ?_⟩
        have hl := hsz i els[i] (List.getElem?_eq_getElem hlt)
        subst ho
        have : splice els[i] 0 xs = xs ++ els[i].drop xs.length := by cases els[i] <;> rfl
        rw [this, hx, ← hl]; simp
      · cases h
    | false =>
      rw [hb] at h
      simp only [cond_false] at h
      rw [List.getElem?_modify] at h
      cases h0 : els[i]? with
      | none => rw [h0] at h; simp at h
      | some c0 =>
        rw [h0] at h
        simp at h
        exact ⟨c0, rfl, h.symm⟩
  · refine .inl ⟨hij, ?_⟩
    cases hb : (Nat.beq off 0 && Nat.beq xs.length sz) with
    | true =>
      rw [hb] at h
      simpa [List.getElem?_set, Ne.symm hij] using h
    | false =>
      rw [hb] at h
      simpa [List.getElem?_modify, Ne.symm hij] using h

theorem aStore_sound (h : SRel E N A w0 m s a w) (T : TypeId) {x y : AV} {vx vy : Value} (hx : VRel w (okB A s.H m w) m s.H x vx) (hy : VRel w (okB A s.H m w) m s.H y vy)
    (ha : aStore E T x y dst s k) : ResU E N A w0 a dst k ((Instr.storeAt T vx vy).run E.P w) := by
  unfold aStore at ha
  split at ha
  · rename_i ti cs hti hcs
    obtain ⟨hl, h1, hrel⟩ := cellsOf_rel hy hcs
    cases hb : Nat.beq cs.length ti.sz with
    | false => rw [hb] at ha; exact ha.elim
    | true =>
      rw [hb] at ha
      have hlen : cs.length = ti.sz := Nat.eq_of_beq_eq_true hb
      simp only [cond_true] at ha
      split at ha
      · -- a variable
        rename_i o off
        split at ha
        · rename_i e cs0 hH
          cases hb2 : Nat.ble (off + cs.length) cs0.length with
          | false => rw [hb2] at ha; exact ha.elim
          | true =>
            rw [hb2] at ha
            have hfit : off + cs.length ≤ cs0.length := Nat.le_of_ble_eq_true hb2
            simp only [cond_true] at ha
            obtain ⟨b, full, cur, hm, hbb, hcur, hsz, hcells⟩ := h.objs o _ hH
            cases hx with
            | ptr _ _ e' cs' b' full' hH' hm' =>
              rw [hm] at hm'
              injection hm' with hm'
              injection hm' with e1 e2
              subst e1; subst e2
              have hfit2 : off + vy.cells.size ≤ cur.size := by omega
              have hrun := store_run (E := E) hti hcur (v := vy) (by omega) hfit2 h1
              have hlike : Like s.H (s.setH o (.vs e (splice cs0 off cs))).H m m := by
                constructor
                · intro o2 e2 cs2 h2
                  by_cases hne : o2 = o
                  · subst hne
                    rw [hH] at h2; injection h2 with h2; injection h2 with i1 i2; subst i1
                    exact ⟨⟨_, by simp [St.setH, nbeq_self]; rfl⟩, rfl⟩
                  · exact ⟨⟨cs2, by simp [St.setH, nbeq_ne hne, h2]⟩, rfl⟩
                · intro o2 e2 sz2 els2 h2
                  by_cases hne : o2 = o
                  · subst hne; rw [hH] at h2; injection h2 with h2; cases h2
                  · exact ⟨⟨els2, by simp [St.setH, nbeq_ne hne, h2], rfl⟩, rfl⟩
              have hok : ∀ q, okB A s.H m w q → okB A (s.setH o (.vs e (splice cs0 off cs))).H m (w.setRow b (cur.toList.take off ++ vy.cells.toList ++ cur.toList.drop (off + vy.cells.toList.length)).toArray) q ∧
                  (w.setRow b (cur.toList.take off ++ vy.cells.toList ++ cur.toList.drop (off + vy.cells.toList.length)).toArray).heap[q]? = w.heap[q]? := by
                intro q hq
                refine ⟨⟨by rw [size_setRow]; exact hq.1, fun o2 ho2 p hp => hq.2.1 o2 ?_ p hp, hq.2.2⟩, setRow_other w b q _ ?_⟩
                · by_cases hne : o2 = o
                  · subst hne; simp [hH]
                  · simpa [St.setH, nbeq_ne hne] using ho2
                · intro hqb; exact hq.2.1 o (by simp [hH]) _ hm (by simp [hqb])
              have hS := h.update (w' := w.setRow b (cur.toList.take off ++ vy.cells.toList ++ cur.toList.drop (off + vy.cells.toList.length)).toArray) o _ (.vs e (splice cs0 off cs)) hH hlike b full hm (below_setRow h hbb _) (size_setRow w b _) (fun q hq => setRow_other w b q _ hq)
                ⟨b, full, _, hm, hbb, setRow_heap w b cur _ e _ hcur, by rw [splice_length _ _ _ hfit, ← hsz]; exact row_size cur off _ (by simpa using hfit2), fun i c hi => by
                  rw [splice_get _ _ _ _ hfit] at hi
                  rw [row_get cur off _ (by simpa using hfit2)]
                  by_cases hin : off ≤ i ∧ i < off + cs.length
                  · rw [if_pos hin] at hi
                    have hin2 : off ≤ i ∧ i < off + vy.cells.toList.length := by simp; omega
                    rw [if_pos hin2]
                    have hlt : i - off < vy.cells.size := by omega
                    refine ⟨vy.cells[i - off], by rw [Array.getElem?_toList, Array.getElem?_eq_getElem hlt], ?_⟩
                    exact (hrel _ _ _ hi (Array.getElem?_eq_getElem hlt)).mono hok hlike
                  · rw [if_neg hin] at hi
                    have hin2 : ¬ (off ≤ i ∧ i < off + vy.cells.toList.length) := by simp; omega
                    rw [if_neg hin2]
                    obtain ⟨u, hu, hv⟩ := hcells i c hi
                    exact ⟨u, hu, hv.mono hok hlike⟩⟩
              exact ⟨_, hrun, m, _, hS.put dst undef_rel, ha⟩
        · exact ha.elim
      · -- an element
        rename_i o j off
        split at ha
        · rename_i e sz els xs hH hxs
          obtain ⟨hxl, hxg⟩ := toDs_get cs xs hxs
          cases hb2 : Nat.ble (off + xs.length) sz with
          | false => rw [hb2] at ha; exact ha.elim
          | true =>
            rw [hb2] at ha
            have hfit : off + xs.length ≤ sz := Nat.le_of_ble_eq_true hb2
            simp only [cond_true] at ha
            cases hx with
            | eptr _ _ _ e' sz' els' b' full' hH' hj hm' =>
              rw [hH] at hH'
              injection hH' with hH'
              injection hH' with i1 i2 i3
              subst i1; subst i2; subst i3
              obtain ⟨hmn, _⟩ | ⟨b, full, cur, hm, hbb, hcur, hlen2, hmax, hsz, hcells⟩ := h.objs o _ hH
              · rw [hm'] at hmn; cases hmn
              · rw [hm] at hm'
                injection hm' with hm'
                injection hm' with e1 e2
                subst e1; subst e2
                have hjs : j * sz + sz ≤ full * sz := by
                  have : (j + 1) * sz ≤ full * sz := Nat.mul_le_mul_right _ (by omega)
                  rw [Nat.add_mul, Nat.one_mul] at this; exact this
                have hfit2 : (j * sz + off) + vy.cells.size ≤ cur.size := by omega
                have hrun := store_run (E := E) hti hcur (v := vy) (by omega) hfit2 h1
                have hszs : ∀ (i : Nat) (c : List D), els[i]? = some c → c.length = sz := fun i c hi => (hcells i c hi).1
                have hlike : Like s.H (s.setH o (.ds e sz (setEl els sz j off xs))).H m m := by
                  constructor
                  · intro o2 e2 cs2 h2
                    by_cases hne : o2 = o
                    · subst hne; rw [hH] at h2; injection h2 with h2; cases h2
                    · exact ⟨⟨cs2, by simp [St.setH, nbeq_ne hne, h2]⟩, rfl⟩
                  · intro o2 e2 sz2 els2 h2
                    by_cases hne : o2 = o
                    · subst hne
                      rw [hH] at h2; injection h2 with h2; injection h2 with i1 i2 i3; subst i1; subst i2; subst i3
                      exact ⟨⟨_, by simp [St.setH, nbeq_self]; rfl, setEl_length _ _ _ _ _⟩, rfl⟩
                    · exact ⟨⟨els2, by simp [St.setH, nbeq_ne hne, h2], rfl⟩, rfl⟩
                have hok : ∀ q, okB A s.H m w q → okB A (s.setH o (.ds e sz (setEl els sz j off xs))).H m (w.setRow b (cur.toList.take (j * sz + off) ++ vy.cells.toList ++ cur.toList.drop ((j * sz + off) + vy.cells.toList.length)).toArray) q ∧
                    (w.setRow b (cur.toList.take (j * sz + off) ++ vy.cells.toList ++ cur.toList.drop ((j * sz + off) + vy.cells.toList.length)).toArray).heap[q]? = w.heap[q]? := by
                  intro q hq
                  refine ⟨⟨by rw [size_setRow]; exact hq.1, fun o2 ho2 p hp => hq.2.1 o2 ?_ p hp, hq.2.2⟩, setRow_other w b q _ ?_⟩
                  · by_cases hne : o2 = o
                    · subst hne; simp [hH]
                    · simpa [St.setH, nbeq_ne hne] using ho2
                  · intro hqb; exact hq.2.1 o (by simp [hH]) _ hm (by simp [hqb])
                have hS := h.update (w' := w.setRow b (cur.toList.take (j * sz + off) ++ vy.cells.toList ++ cur.toList.drop ((j * sz + off) + vy.cells.toList.length)).toArray) o _ (.ds e sz (setEl els sz j off xs)) hH hlike b full hm (below_setRow h hbb _) (size_setRow w b _) (fun q hq => setRow_other w b q _ hq)
                  (.inr ⟨b, full, _, hm, hbb, setRow_heap w b cur _ e _ hcur, by rw [setEl_length]; exact hlen2, hmax, by rw [← hsz]; exact row_size cur _ _ (by simpa using hfit2), fun i c hi => by
                    rcases setEl_get els sz j off xs hszs hfit i c hi with ⟨hne, hi2⟩ | ⟨rfl, c0, hi2, rfl⟩
                    · obtain ⟨hc1, hc2⟩ := hcells i c hi2
                      refine ⟨hc1, fun q d hq => ?_⟩
                      obtain ⟨u, hu, hr⟩ := hc2 q d hq
                      refine ⟨u, ?_, hr.mono hok⟩
                      rw [row_get cur _ _ (by simpa using hfit2), if_neg ?_]
                      · exact hu
                      · have hq2 : q < sz := by have := (List.getElem?_eq_some_iff.1 hq).1; omega
                        simp only [Array.length_toList]
                        rcases Nat.lt_or_gt_of_ne hne with hlt | hgt
                        · have : (i + 1) * sz ≤ j * sz := Nat.mul_le_mul_right _ hlt
                          rw [Nat.add_mul, Nat.one_mul] at this; omega
                        · have : (j + 1) * sz ≤ i * sz := Nat.mul_le_mul_right _ hgt
                          rw [Nat.add_mul, Nat.one_mul] at this; omega
                    · obtain ⟨hc1, hc2⟩ := hcells i c0 hi2
                      have hfit3 : off + xs.length ≤ c0.length := by omega
                      refine ⟨by rw [splice_length _ _ _ hfit3]; exact hc1, fun q d hq => ?_⟩
                      rw [splice_get _ _ _ _ hfit3] at hq
                      rw [row_get cur _ _ (by simpa using hfit2)]
                      by_cases hin : off ≤ q ∧ q < off + xs.length
                      · rw [if_pos hin] at hq
                        have hlt : q - off < vy.cells.size := by omega
                        have hcq := hxg _ _ hq
                        refine ⟨vy.cells[q - off], ?_, ?_⟩
                        · rw [if_pos (by simp; omega), Array.getElem?_toList, ← Array.getElem?_eq_getElem hlt]
                          congr 1; omega
                        · have := hrel _ _ _ hcq (Array.getElem?_eq_getElem hlt)
                          cases this with
                          | d _ _ hd => exact hd.mono hok
                      · rw [if_neg hin] at hq
                        obtain ⟨u, hu, hr⟩ := hc2 q d hq
                        exact ⟨u, by rw [if_neg (by simp; omega)]; exact hu, hr.mono hok⟩⟩)
                exact ⟨_, hrun, m, _, hS.put dst undef_rel, ha⟩
        · exact ha.elim
      · exact ha.elim
  · exact ha.elim

end
end Ai
