import Derived.Test.YtmcammamjbfkfaaGreatDoorAiDefs
set_option maxHeartbeats 1000000
set_option linter.unusedVariables false
namespace Ai
open Go Go.RowKit

theorem nbeq_ne {a b : Nat} (h : a ≠ b) : Nat.beq a b = false := by
  cases hb : Nat.beq a b
  · rfl
  · exact absurd (Nat.eq_of_beq_eq_true hb) h
theorem nbeq_self (a : Nat) : Nat.beq a a = true := Nat.beq_refl a

/-! ### What represents what -/
inductive RepD (w : World) (ok : Nat → Prop) : D → Value → Prop
  | bool (b : Bool) : RepD w ok (.bool b) (.bool b)
  | int (k : IntKind) (n : Int) : RepD w ok (.int k n) (.int k n)
  | flt (b : Nat) : RepD w ok (.flt (canon b)) (.float .f64 b)
  | str (s : ByteArray) : RepD w ok (.str s.data.toList) (.string s)
  | nil : RepD w ok .nil (.slice none 0 0)
  | sl0 (a : Option Addr) (cap : Nat) : RepD w ok (.sl []) (.slice a 0 cap)
  | sl (els : List (List D)) (sz b off cap : Nat) (us : Nat → Value) (hok : ok b) (hlc : els.length ≤ cap)
      (hc : ∀ j c, els[j]? = some c → c.length = sz ∧ ∀ i d, c[i]? = some d → w.cell? ⟨b, off + (j * sz + i), none⟩ = some (us (j * sz + i)))
      (hr : ∀ j c, els[j]? = some c → ∀ i d, c[i]? = some d → RepD w ok d (us (j * sz + i))) :
      RepD w ok (.sl els) (.slice (some ⟨b, off, none⟩) els.length cap)

theorem cell_of_heap {w w' : World} {b off : Nat} (h : w'.heap[b]? = w.heap[b]?) : w'.cell? ⟨b, off, none⟩ = w.cell? ⟨b, off, none⟩ := by
  simp only [World.cell?, h]

theorem RepD.mono {w w' : World} {ok ok' : Nat → Prop} (h : ∀ b, ok b → ok' b ∧ w'.heap[b]? = w.heap[b]?) {d : D} {v : Value} (r : RepD w ok d v) : RepD w' ok' d v := by
  induction r with
  | bool b => exact .bool b
  | int k n => exact .int k n
  | flt b => exact .flt b
  | str s => exact .str s
  | nil => exact .nil
  | sl0 a cap => exact .sl0 a cap
  | sl els sz b off cap us hok hlc hc hr ih =>
    refine .sl els sz b off cap us (h b hok).1 hlc (fun j c hj => ⟨(hc j c hj).1, fun i d hi => ?_⟩) (fun j c hj i d hi => ih j c hj i d hi)
    rw [cell_of_heap (h b hok).2]
    exact (hc j c hj).2 i d hi

theorem RepD.oneCell {w : World} {ok : Nat → Prop} {d : D} {v : Value} (r : RepD w ok d v) : v.oneCell' = true ∧ v.cells = #[v] := by
  cases r <;> exact ⟨rfl, rfl⟩

/-- The blocks of the call's own: of a key the block and how many elements fit. -/
abbrev Own := Nat → Option (Nat × Nat)

inductive VRel (w : World) (ok : Nat → Prop) (m : Own) (H : Nat → Option Ob) : AV → Value → Prop
  | junk (v : Value) : VRel w ok m H .junk v
  | d (x : D) (v : Value) (h : RepD w ok x v) : VRel w ok m H (.d x) v
  | fp (cs : List D) (b off : Nat) (us : Nat → Value) (hok : ok b)
      (hc : ∀ i d, cs[i]? = some d → w.cell? ⟨b, off + i, none⟩ = some (us i) ∧ RepD w ok d (us i)) : VRel w ok m H (.fp cs) (.pointer (some ⟨b, off, none⟩))
  | ref (o off n e sz : Nat) (els : List (List D)) (b full cap : Nat) (hH : H o = some (.ds e sz els)) (hn : off + n ≤ els.length) (hm : m o = some (b, full)) (hcap : off = 0 → cap = full) (hnc : n ≤ cap) :
      VRel w ok m H (.ref o off n) (.slice (some ⟨b, off * sz, none⟩) n cap)
  | ref0 (o e sz : Nat) (hH : H o = some (.ds e sz [])) (hm : m o = none) : VRel w ok m H (.ref o 0 0) (.slice none 0 0)
  | ptr (o off e : Nat) (cs : List AV) (b full : Nat) (hH : H o = some (.vs e cs)) (hm : m o = some (b, full)) : VRel w ok m H (.ptr o off) (.pointer (some ⟨b, off, none⟩))
  | eptr (o j off e sz : Nat) (els : List (List D)) (b full : Nat) (hH : H o = some (.ds e sz els)) (hj : j < els.length) (hm : m o = some (b, full)) :
      VRel w ok m H (.eptr o j off) (.pointer (some ⟨b, j * sz + off, none⟩))
  | agg (cs : List AV) (us : Array Value) (hl : cs.length = us.size) (h : ∀ (i : Nat) (c : AV) (u : Value), cs[i]? = some c → us[i]? = some u → VRel w ok m H c u) : VRel w ok m H (.agg cs) (.agg us)
  | tup (cs : List AV) (us : Array Value) (hl : cs.length = us.size) (h : ∀ (i : Nat) (c : AV) (u : Value), cs[i]? = some c → us[i]? = some u → VRel w ok m H c u) : VRel w ok m H (.tup cs) (.tuple us)
  | fn (f : FuncId) (cs : List AV) (us : Array Value) (hl : cs.length = us.size) (h : ∀ (i : Nat) (c : AV) (u : Value), cs[i]? = some c → us[i]? = some u → VRel w ok m H c u) : VRel w ok m H (.fn f cs) (.func (.func f) #[] us)

/-- Objects of the same form. -/
def Like (H H' : Nat → Option Ob) (m m' : Own) : Prop :=
  (∀ o e cs, H o = some (.vs e cs) → (∃ cs', H' o = some (.vs e cs')) ∧ m' o = m o) ∧
  (∀ o e sz els, H o = some (.ds e sz els) → (∃ els', H' o = some (.ds e sz els') ∧ els'.length = els.length) ∧ m' o = m o)

theorem VRel.mono {w w' : World} {ok ok' : Nat → Prop} {m m' : Own} {H H' : Nat → Option Ob} (h : ∀ b, ok b → ok' b ∧ w'.heap[b]? = w.heap[b]?) (hl : Like H H' m m')
    {a : AV} {v : Value} (r : VRel w ok m H a v) : VRel w' ok' m' H' a v := by
  induction r with
  | junk v => exact .junk v
  | d x v hx => exact .d x v (hx.mono h)
  | fp cs b off us hok hc =>
    refine .fp cs b off us (h b hok).1 fun i d hi => ⟨?_, (hc i d hi).2.mono h⟩
    rw [cell_of_heap (h b hok).2]
    exact (hc i d hi).1
  | ref o off n e sz els b full cap hH hn hm hcap hnc =>
    obtain ⟨⟨els', h1, h2⟩, h3⟩ := hl.2 o e sz els hH
    exact .ref o off n e sz els' b full cap h1 (by omega) (h3.trans hm) hcap hnc
  | ref0 o e sz hH hm =>
    obtain ⟨⟨els', h1, h2⟩, h3⟩ := hl.2 o e sz [] hH
    have : els' = [] := List.eq_nil_of_length_eq_zero (by simpa using h2)
    subst this
    exact .ref0 o e sz h1 (h3.trans hm)
  | ptr o off e cs b full hH hm =>
    obtain ⟨⟨cs', h1⟩, h3⟩ := hl.1 o e cs hH
    exact .ptr o off e cs' b full h1 (h3.trans hm)
  | eptr o j off e sz els b full hH hj hm =>
    obtain ⟨⟨els', h1, h2⟩, h3⟩ := hl.2 o e sz els hH
    exact .eptr o j off e sz els' b full h1 (by omega) (h3.trans hm)
  | agg cs us hs h ih => exact .agg cs us hs ih
  | tup cs us hs h ih => exact .tup cs us hs ih
  | fn f cs us hs h ih => exact .fn f cs us hs ih

theorem Like.refl (H : Nat → Option Ob) (m : Own) : Like H H m m := ⟨fun _ _ cs h => ⟨⟨cs, h⟩, rfl⟩, fun _ _ _ els h => ⟨⟨els, h, rfl⟩, rfl⟩⟩

theorem VRel.oneCell {w : World} {ok : Nat → Prop} {m : Own} {H : Nat → Option Ob} {a : AV} {v : Value} (r : VRel w ok m H a v) (h : okCell a = true) : v.oneCell' = true ∧ v.cells = #[v] := by
  cases r with
  | d x v hx => exact hx.oneCell
  | _ => first | exact ⟨rfl, rfl⟩ | simp [okCell] at h

/-! ### Scrubbing -/
theorem scrL_length (κ : Nat) : ∀ vs : List AV, (scrL κ vs).length = vs.length
  | [] => by simp [scrL]
  | v :: vs => by simp [scrL, scrL_length κ vs]
theorem scrL_get (κ : Nat) : ∀ (vs : List AV) (i : Nat), (scrL κ vs)[i]? = (vs[i]?).map (scr κ)
  | [], i => by simp [scrL]
  | v :: vs, 0 => by simp [scrL]
  | v :: vs, i + 1 => by simp [scrL, scrL_get κ vs i]
theorem okCell_scr (κ : Nat) (a : AV) : okCell (scr κ a) = true → okCell a = true := by
  cases a <;> simp [scr, okCell]

/-- Objects of the same form, but for one that goes. -/
def LikeBut (κ : Nat) (H H' : Nat → Option Ob) (m m' : Own) : Prop :=
  (∀ o e cs, o ≠ κ → H o = some (.vs e cs) → (∃ cs', H' o = some (.vs e cs')) ∧ m' o = m o) ∧
  (∀ o e sz els, o ≠ κ → H o = some (.ds e sz els) → (∃ els', H' o = some (.ds e sz els') ∧ els'.length = els.length) ∧ m' o = m o)

theorem VRel.scr {κ : Nat} {w w' : World} {ok ok' : Nat → Prop} {m m' : Own} {H H' : Nat → Option Ob} (h : ∀ b, ok b → ok' b ∧ w'.heap[b]? = w.heap[b]?) (hl : LikeBut κ H H' m m')
    {a : AV} {v : Value} (r : VRel w ok m H a v) : VRel w' ok' m' H' (Ai.scr κ a) v := by
  induction r with
  | junk v => exact .junk v
  | d x v hx => exact .d x v (hx.mono h)
  | fp cs b off us hok hc =>
    refine .fp cs b off us (h b hok).1 fun i d hi => ⟨?_, (hc i d hi).2.mono h⟩
    rw [cell_of_heap (h b hok).2]
    exact (hc i d hi).1
  | ref o off n e sz els b full cap hH hn hm hcap hnc =>
    simp only [Ai.scr]
    by_cases ho : o = κ
    · simp [ho]; exact .junk _
    · obtain ⟨⟨els', h1, h2⟩, h3⟩ := hl.2 o e sz els ho hH
      have := nbeq_ne ho
      rw [this]
      exact .ref o off n e sz els' b full cap h1 (by omega) (h3.trans hm) hcap hnc
  | ref0 o e sz hH hm =>
    simp only [Ai.scr]
    by_cases ho : o = κ
    · simp [ho]; exact .junk _
    · obtain ⟨⟨els', h1, h2⟩, h3⟩ := hl.2 o e sz [] ho hH
      have := nbeq_ne ho
      rw [this]
      have : els' = [] := List.eq_nil_of_length_eq_zero (by simpa using h2)
      subst this
      exact .ref0 o e sz h1 (h3.trans hm)
  | ptr o off e cs b full hH hm =>
    simp only [Ai.scr]
    by_cases ho : o = κ
    · simp [ho]; exact .junk _
    · obtain ⟨⟨cs', h1⟩, h3⟩ := hl.1 o e cs ho hH
      have := nbeq_ne ho
      rw [this]
      exact .ptr o off e cs' b full h1 (h3.trans hm)
  | eptr o j off e sz els b full hH hj hm =>
    simp only [Ai.scr]
    by_cases ho : o = κ
    · simp [ho]; exact .junk _
    · obtain ⟨⟨els', h1, h2⟩, h3⟩ := hl.2 o e sz els ho hH
      have := nbeq_ne ho
      rw [this]
      exact .eptr o j off e sz els' b full h1 (by omega) (h3.trans hm)
  | agg cs us hs h ih =>
    simp only [Ai.scr]
    refine .agg _ us (by rw [scrL_length]; exact hs) fun i c u hi hu => ?_
    rw [scrL_get] at hi
    obtain ⟨c0, hc0, rfl⟩ := Option.map_eq_some_iff.1 hi
    exact ih i c0 u hc0 hu
  | tup cs us hs h ih =>
    simp only [Ai.scr]
    refine .tup _ us (by rw [scrL_length]; exact hs) fun i c u hi hu => ?_
    rw [scrL_get] at hi
    obtain ⟨c0, hc0, rfl⟩ := Option.map_eq_some_iff.1 hi
    exact ih i c0 u hc0 hu
  | fn f cs us hs h ih =>
    simp only [Ai.scr]
    refine .fn f _ us (by rw [scrL_length]; exact hs) fun i c u hi hu => ?_
    rw [scrL_get] at hi
    obtain ⟨c0, hc0, rfl⟩ := Option.map_eq_some_iff.1 hi
    exact ih i c0 u hc0 hu

/-! ### Types -/
def rawD : D → Value
  | .bool b => .bool b
  | .int k n => .int k n
  | .flt x => .float .f64 x
  | .str s => .string ⟨s.toArray⟩
  | .nil => .slice none 0 0
  | .sl _ => .slice none 0 0
def plainD : D → Bool
  | .flt x => canon x == x
  | .sl _ => false
  | _ => true
theorem rep_raw {w : World} {ok : Nat → Prop} {d : D} (h : plainD d = true) : RepD w ok d (rawD d) := by
  cases d with
  | flt x => have : canon x = x := by simpa [plainD] using h
             have h2 := RepD.flt (w := w) (ok := ok) x
             rw [this] at h2; exact h2
  | sl els => simp [plainD] at h
  | bool b => exact .bool b
  | int k n => exact .int k n
  | str s => exact .str ⟨s.toArray⟩
  | nil => exact .nil

def isAggD : TypeDesc → Bool
  | .struct _ | .array _ _ => true
  | _ => false
def DMatch (P : Program) (t : TypeId) : TD → Prop
  | .bool => P.underlying t = some .bool
  | .int k => P.underlying t = some (.int k)
  | .flt => P.underlying t = some (.float .f64)
  | .str => P.underlying t = some .string
  | .slice e => P.underlying t = some (.slice e)
  | .struct fs => ∃ F, P.underlying t = some (.struct F) ∧ F.toList.map (fun f => (f.offset, f.type)) = fs
  | .array n e => P.underlying t = some (.array n e)
  | .other => True
theorem DMatch.field {P : Program} {F : Array Field} {fs : List (Nat × TypeId)} (h : F.toList.map (fun f => (f.offset, f.type)) = fs) (i o ft : Nat) (hi : fs[i]? = some (o, ft)) : ∃ fl, F[i]? = some fl ∧ fl.offset = o ∧ fl.type = ft := by
  rw [← h, List.getElem?_map, Option.map_eq_some_iff] at hi
  obtain ⟨fl, h1, h2⟩ := hi
  simp only [Prod.mk.injEq] at h2
  exact ⟨fl, by simpa using h1, h2.1, h2.2⟩
structure TFact (P : Program) (t : TypeId) (ti : TI) : Prop where
  info : ∃ i z, P.info? t = some i ∧ i.size = ti.sz ∧ i.bytes = ti.bytes ∧ i.zero = some z ∧ z.cells = (ti.zero.map rawD).toArray
  plain : ti.zero.all plainD = true
  zlen : ti.zero.length = ti.sz
  agg : ∃ u, P.underlying t = some u ∧ isAggD u = ti.agg
  desc : DMatch P t ti.desc

/-! ### The state -/
structure Env where
  P : Program
  Θ : TypeId → Option TI
  hΘ : ∀ t ti, Θ t = some ti → TFact P t ti
  hm : P.follows .mixedOrders = true
  I : World → Prop
  Imono : ∀ w w', I w → Below w.heap.size w w' → I w'

def okB (A : Nat → Prop) (H : Nat → Option Ob) (m : Own) (w : World) (b : Nat) : Prop := b < w.heap.size ∧ (∀ o, H o ≠ none → ∀ p, m o = some p → p.1 ≠ b) ∧ A b

def ORel (A : Nat → Prop) (base : Nat) (w : World) (m : Own) (H : Nat → Option Ob) (o : Nat) : Ob → Prop
  | .vs e cs => ∃ b full cur, m o = some (b, full) ∧ base ≤ b ∧ w.heap[b]? = some (.cells cur e (0, 0)) ∧ cur.size = cs.length ∧
      ∀ (i : Nat) (c : AV), cs[i]? = some c → ∃ u, cur[i]? = some u ∧ VRel w (okB A H m w) m H c u
  | .ds e sz els => (m o = none ∧ els = []) ∨ ∃ b full cur, m o = some (b, full) ∧ base ≤ b ∧ w.heap[b]? = some (.cells cur e (0, 0)) ∧ els.length ≤ full ∧ full ≤ maxLen ∧ cur.size = full * sz ∧
      ∀ j c, els[j]? = some c → c.length = sz ∧ ∀ i d, c[i]? = some d → ∃ u, cur[j * sz + i]? = some u ∧ RepD w (okB A H m w) d u

structure SRel (E : Env) (N : Nat) (A : Nat → Prop) (w0 : World) (m : Own) (s : St) (a : Act) (w : World) : Prop where
  size : a.tmps.size = N
  defers : a.defers = []
  below : Below w0.heap.size w0 w
  inv : E.I w0
  tmps : ∀ i, i < N → VRel w (okB A s.H m w) m s.H (s.τ i) (a.tmps.getD i undef)
  objs : ∀ o ob, s.H o = some ob → ORel A w0.heap.size w m s.H o ob
  inj : ∀ o o' p p', s.H o ≠ none → s.H o' ≠ none → m o = some p → m o' = some p' → p.1 = p'.1 → o = o'
  hA : ∀ b, w0.heap.size ≤ b → A b

/-- A result, as its receiver may take it: a row of its own lies from block b0 on. -/
def RRok (w' : World) (b0 : Nat) (ok : Nat → Prop) (r : AV) (v : Value) : Prop :=
  match r with
  | .uq e sz els => (els = [] ∧ v = .slice none 0 0) ∨ ∃ b full cur, v = .slice (some ⟨b, 0, none⟩) els.length full ∧ b0 ≤ b ∧ w'.heap[b]? = some (.cells cur e (0, 0)) ∧ els.length ≤ full ∧ full ≤ maxLen ∧ cur.size = full * sz ∧
      ∀ j c, els[j]? = some c → c.length = sz ∧ ∀ i d, c[i]? = some d → ∃ u, cur[j * sz + i]? = some u ∧ RepD w' (fun x => ok x ∧ x ≠ b) d u
  | r => VRel w' ok (fun _ => none) (fun _ => none) r v
/-- What it holds is new, or was among what was handed on. -/
def RRel (w w' : World) (A : Nat → Prop) (r : AV) (v : Value) : Prop := RRok w' w.heap.size (fun x => x < w'.heap.size ∧ (A x ∨ w.heap.size ≤ x)) r v

def ARel (w : World) (A : Nat → Prop) (as : List AV) (vs : Array Value) : Prop :=
  as.length = vs.size ∧ ∀ (i : Nat) (a : AV) (v : Value), as[i]? = some a → vs[i]? = some v → VRel w (fun x => x < w.heap.size ∧ A x) (fun _ => none) (fun _ => none) a v

/-- What a call comes to. -/
def Invokes (P : Program) (f : FuncId) (vs : Array Value) (w : World) (post : Value → World → Prop) : Prop :=
  match (callFunc f vs).run P w with
  | .ok (.enter g args) w' => Calls P g args w' fun e w'' => ∃ v, e = .returned v ∧ post v w''
  | .ok (.value v) w' => post v w'
  | _ => False

/-- 'f', called with what 'as' tells, returns something that R tells, in new memory, and turns nothing that was there. -/
def CallsTo (E : Env) (f : FuncId) (as : List AV) (R : AV → Prop) : Prop :=
  ∀ w A vs, E.I w → ARel w A as vs → Invokes E.P f vs w fun v w' => ∃ r, R r ∧ Below w.heap.size w w' ∧ RRel w w' A r v

/-- Nothing of what was there has turned but for one block. -/
structure BelowBut (b : Nat) (w w' : World) : Prop where
  os : w'.os = w.os
  tape : w'.tape = w.tape
  output : w'.output = w.output
  size : w.heap.size ≤ w'.heap.size
  block : ∀ k, k < w.heap.size → k ≠ b → w'.heap[k]? = w.heap[k]?
/-- 'f', handed a row of the caller's own that the caller gives up, returns something that R tells, in that row or in new memory, and turns nothing else. -/
def TakesTo (E : Env) (f : FuncId) (e sz : Nat) (els : List (List D)) (R : AV → Prop) : Prop :=
  (∀ (w : World) (A : Nat → Prop) (b full : Nat) (cur : Array Value), E.I w → w.heap[b]? = some (.cells cur e (0, 0)) → els.length ≤ full → full ≤ maxLen → cur.size = full * sz →
    (∀ (j : Nat) (c : List D), els[j]? = some c → c.length = sz ∧ ∀ (i : Nat) (d : D), c[i]? = some d → ∃ u, cur[j * sz + i]? = some u ∧ RepD w (fun x => x < w.heap.size ∧ A x ∧ x ≠ b) d u) →
    Invokes E.P f #[.slice (some ⟨b, 0, none⟩) els.length full] w fun v w' => ∃ r, R r ∧ BelowBut b w w' ∧ VRel w' (fun x => x < w'.heap.size ∧ (A x ∨ x = b ∨ w.heap.size ≤ x)) (fun _ => none) (fun _ => none) r v) ∧
  (els = [] → ∀ (w : World) (A : Nat → Prop), E.I w → Invokes E.P f #[.slice none 0 0] w fun v w' => ∃ r, R r ∧ Below w.heap.size w w' ∧ VRel w' (fun x => x < w'.heap.size ∧ (A x ∨ w.heap.size ≤ x)) (fun _ => none) (fun _ => none) r v)

end Ai
