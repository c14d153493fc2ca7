import Derived.Test.YtjkogkjhhjioeaaGreatDoorZE
set_option maxHeartbeats 8000000
set_option linter.unusedVariables false
set_option linter.unusedSimpArgs false
section
set_option maxRecDepth 100000
namespace Ai
open Go Go.Proofs Cyc
def wX (x : List Nat × List Nat) : List D := [.sl (x.1.map yA), .sl (x.2.map yA)]
def wJ (cs : List (List Nat)) (q : List Nat) (j : Nat) : List (List Nat × List Nat) := (cs.take j).map fun c => (q, c)
def xZ (cs : List (List Nat)) (ps : List (List Nat)) (i : Nat) : List (List Nat × List Nat) := (ps.take i).flatMap fun q => cs.map fun c => (q, c)
def choCell (c : List Nat) (x : D) : Prop := x = .sl (c.map yA) ∨ (x = .nil ∧ c = [])
theorem own_cell {c : List Nat} {x : D} (hc : c.length ≤ 1000) (h : choCell c x) : ∃ y, fz1 ⟨fun _ => .junk, fun _ => none⟩ (.d x) = some y ∧ CallsTo EE 83 [.d y] (· = .uq 3 1 (c.map yA)) := by
 have ho : CallsTo EE 83 [sl (c.map yA)] (· = .uq 3 1 (c.map yA)) := by
  rw [qW]; exact gC (yE c) (by simp [yE]; omega)
 rcases h with rfl | ⟨rfl, rfl⟩
 ·exact ⟨_, rfl, ho⟩
 ·exact ⟨_, rfl, ho⟩
theorem l5All_ok (k d : Int) (cs : List (List Nat)) (CR : List (List D)) (hC : CallsTo EE 86 [i64 k, i64 d, i64 0] (· = .uq 25 1 CR)) (hl : CR.length = cs.length) (hb : cs.length ≤ 100) (hcs : ∀ c ∈ cs, c.length ≤ 1000)
  (hR : ∀ j (h : j < cs.length), ∃ x, CR[j]? = some [x] ∧ choCell cs[j] x) : CallsTo EE 53 [i64 5, i64 k, i64 d] (· = .uq 70 2 ((xZ cs (wO 5 []) (wO 5 []).length).map wX)) := by
 have hP := sQ 5 [] rfl
 have hpl := lW 5 []
 have hp5 : ∀ q ∈ wO 5 [], q.length ≤ 1000 := by
  have : (wO 5 []).all (fun q => decide (q.length = 5)) = true := by decide +kernel
  intro q hq
  have := of_decide_eq_true (List.all_eq_true.1 this q hq)
  omega
 generalize wO 5 [] = ps at *
 refine callsTo_of_AW (fn := Tryz.f53) Tryz.func53 rfl (by kernel_rfl) rfl ?_
 conv => whnf
 refine ⟨_, hC, ?_⟩
 rintro r rfl
 refine .inl ?_
 conv => whnf
 refine ⟨_, hP, ?_⟩
 rintro r rfl
 refine .inl ?_
 conv => whnf
 refine yF (fun i : Nat => [(0, i64 5), (7, .ref (.n 60) 0 ((xZ cs ps i).map wX).length), (8, .d (.sl CR)), (18, .d (.sl (wB ps))), (19, i64 (wB ps).length), (20, i64 i)]) (fun i => [(.n 60, .ds 70 2 ((xZ cs ps i).map wX))]) (fun i => ps.length - i) (fun i => i ≤ ps.length) 0
  (kS 7 (.n 60) 70 2 rfl) ⟨rfl, rfl, rfl, rfl, rfl, rfl, trivial⟩ ⟨rfl, trivial⟩ (Nat.zero_le _) ?_
 intro i τ H hi
 have hi : i ≤ ps.length := hi
 conv => whnf
 refine kbi (fun h => ?_) (fun h => ?_)
 ·have hlt : i < ps.length := by simpa [wB] using h
  conv => whnf
  refine ⟨[.sl (ps[i].map yA)], ⟨by omega, by simp [wB, hlt], rfl⟩, ?_⟩
  have hq5 := hp5 _ (List.getElem_mem hlt)
  have hq : CallsTo EE 83 [sl (ps[i].map yA)] (· = .uq 3 1 (ps[i].map yA)) := by
   rw [qW]; exact gC (yE ps[i]) (by simp [yE]; omega)
  have hnx : xZ cs ps (i + 1) = xZ cs ps i ++ cs.map fun c => (ps[i], c) := by
   unfold xZ
   rw [List.take_succ_eq_append_getElem hlt, List.flatMap_append]
   simp
  have hal : (xZ cs ps i).length ≤ ps.length * 100 := by
   have : ∀ i, i ≤ ps.length → (xZ cs ps i).length ≤ i * 100 := by
    intro i
    induction i with
    |zero => intro _; simp [xZ]
    |succ n ih =>
     intro h
     have e : xZ cs ps (n + 1) = xZ cs ps n ++ cs.map fun c => (ps[n], c) := by
      unfold xZ
      rw [List.take_succ_eq_append_getElem (by omega), List.flatMap_append]
      simp
     rw [e, List.length_append, List.length_map]
     have := ih (by omega)
     omega
   exact Nat.le_trans (this i hi) (Nat.mul_le_mul_right _ hi)
  generalize ps[i] = q at *
  conv => whnf
  refine yF (fun _ : Unit => [(0, i64 5), (7, .ref (.n 60) 0 ((xZ cs ps i).map wX).length), (8, .d (.sl CR)), (10, sl (q.map yA)), (11, i64 5), (18, .d (.sl (wB ps))), (19, i64 (wB ps).length), (20, i64 i)]) (fun _ => [(.n 60, .ds 70 2 ((xZ cs ps i).map wX))]) (fun _ => 0) (fun _ => True) ()
   Weak.refl ⟨rfl, rfl, rfl, rfl, rfl, rfl, rfl, rfl, trivial⟩ ⟨rfl, trivial⟩ trivial ?_
  intro _ τ H _
  conv => whnf
  refine kbi (fun h => absurd h (by simp)) (fun _ => ?_)
  conv => whnf
  refine yF (fun j : Nat => [(0, i64 5), (7, .ref (.n 60) 0 ((xZ cs ps i ++ wJ cs q j).map wX).length), (8, .d (.sl CR)), (10, sl (q.map yA)), (18, .d (.sl (wB ps))), (19, i64 (wB ps).length), (20, i64 i), (33, .d (.sl CR)), (34, i64 CR.length), (35, i64 j)]) (fun j => [(.n 60, .ds 70 2 ((xZ cs ps i ++ wJ cs q j).map wX))]) (fun j => cs.length - j) (fun j => j ≤ cs.length) 0
   Weak.refl ⟨rfl, ?_, rfl, rfl, rfl, rfl, rfl, rfl, rfl, rfl, trivial⟩ ⟨?_, trivial⟩ (Nat.zero_le _) ?_
  ·simp [wJ]; rfl
  ·simp [wJ]; rfl
  intro j τ H hj
  have hj : j ≤ cs.length := hj
  have hpj : (wJ cs q j).length ≤ 100 := by simp [wJ]; omega
  conv => whnf
  refine kbi (fun h => ?_) (fun h => ?_)
  ·have hjl : j < cs.length := by have := of_decide_eq_true h; omega
   obtain ⟨x, hx1, hx2⟩ := hR j hjl
   have hpn : wJ cs q (j + 1) = wJ cs q j ++ [(q, cs[j])] := by
    unfold wJ
    rw [List.take_succ_eq_append_getElem hjl, List.map_append]; rfl
   have hc1 := hcs _ (List.getElem_mem hjl)
   have hlen2 : ((xZ cs ps i ++ wJ cs q j).map wX).length ≤ 3125 * 100 + 100 := by rw [List.length_map, List.length_append]; omega
   obtain ⟨y, hy1, hy2⟩ := own_cell hc1 hx2
   generalize cs[j] = c at *
   conv => whnf
   refine ⟨[x], ⟨by omega, hx1, rfl⟩, ?_⟩
   rcases hx2 with rfl | ⟨rfl, rfl⟩
   all_goals
    cases hy1
    conv => whnf
    refine ⟨_, hq, ?_⟩
    rintro r rfl
    refine .inl ?_
    conv => whnf
    refine ⟨_, hy2, ?_⟩
    rintro r rfl
    refine .inl ?_
    conv => whnf
    refine ⟨⟨rfl, by show (_ + 1) * 48 ≤ _; omega, by show _ + 1 ≤ _; omega⟩, ?_⟩
    conv => whnf
    refine ⟨j + 1, by show j + 1 ≤ cs.length; omega, by show cs.length - (j + 1) < cs.length - j; omega, ⟨rfl, ?_, rfl, rfl, rfl, rfl, rfl, rfl, rfl, zH hjl (by omega), trivial⟩, ⟨?_, trivial⟩⟩
    ·show AV.ref (.n 60) 0 (((xZ cs ps i ++ wJ cs q j).map wX).length + 1) = .ref (.n 60) 0 ((xZ cs ps i ++ wJ cs q (j + 1)).map wX).length
     rw [hpn]
     simp [Nat.add_assoc]
    ·show some (Ob.ds 70 2 (((xZ cs ps i ++ wJ cs q j).map wX).take ((xZ cs ps i ++ wJ cs q j).map wX).length ++ [wX (q, _)])) = some (Ob.ds 70 2 ((xZ cs ps i ++ wJ cs q (j + 1)).map wX))
     rw [List.take_length, hpn, ← List.append_assoc, List.map_append (l₁ := xZ cs ps i ++ wJ cs q j)]
     rfl
  ·have hge : j = cs.length := by
    have : ¬ (j : Int) < CR.length := fun e => h (decide_eq_true e)
    omega
   subst hge
   have hfull : xZ cs ps i ++ wJ cs q cs.length = xZ cs ps (i + 1) := by
    rw [hnx]; simp [wJ]
   conv => whnf
   refine ⟨i + 1, by show i + 1 ≤ ps.length; omega, by show ps.length - (i + 1) < ps.length - i; omega, ⟨rfl, ?_, rfl, rfl, rfl, zH hlt (by omega), trivial⟩, ⟨?_, trivial⟩⟩
   ·show AV.ref (.n 60) 0 ((xZ cs ps i ++ wJ cs q cs.length).map wX).length = .ref (.n 60) 0 ((xZ cs ps (i + 1)).map wX).length
    rw [hfull]
   ·show some (Ob.ds 70 2 ((xZ cs ps i ++ wJ cs q cs.length).map wX)) = some (Ob.ds 70 2 ((xZ cs ps (i + 1)).map wX))
    rw [hfull]
 ·have hge : i = ps.length := by
   have : ¬ i < ps.length := by simpa [wB] using h
   omega
  subst hge
  conv => whnf
  rw [List.take_of_length_le (Nat.le_refl _)]
end Ai
end
section
set_option maxRecDepth 100000
namespace Ai
open Go Go.Proofs Cyc
theorem eX (k d : Nat) (hk : k ≤ 20) (hd : d ≤ 1) : CallsTo EE 97 [i64 k, i64 d] (· = i64 (vO k d : Nat)) := by
 rcases (show d = 0 ∨ d = 1 by omega) with rfl | rfl
 ·exact tT k
 ·exact choose1_ok k (by omega) (by omega)
theorem CountPct_ok (k d : Nat) (hk : k ≤ 20) (hd : d ≤ 1) : CallsTo EE 57 [i64 5, i64 k, i64 d] (· = .tup [i64 (120 * vO k d : Nat), bv true]) := by
 have hc := eX k d hk hd
 have hc20 : vO k d ≤ 20 := by unfold vO; split <;> omega
 refine callsTo_of_AW (fn := Tryz.f57) Tryz.func57 rfl (by kernel_rfl) rfl ?_
 conv => whnf
 refine ocase (in_ok 5 1 5) (fun _ => ?_) (fun h => absurd (show InR 5 1 5 by unfold InR; omega) h)
 conv => whnf
 refine ocase (in_ok k 0 20) (fun _ => ?_) (fun h => absurd (show InR k 0 20 by unfold InR; omega) h)
 conv => whnf
 refine ocase (in_ok d 0 2) (fun _ => ?_) (fun h => absurd (show InR d 0 2 by unfold InR; omega) h)
 conv => whnf
 refine ⟨_, fact_ok 5 (by omega), ?_⟩
 rintro r rfl
 conv => whnf
 refine ⟨_, hc, ?_⟩
 rintro r rfl
 conv => whnf
 show AV.tup [i64 (IntKind.i64.wrap (((xU 5 : Nat) : Int) * (vO k d : Nat))), bv true] = _
 rw [show xU 5 = 120 from rfl, ← Int.natCast_mul, zD (by omega) (by omega)]
end Ai
end
section
set_option maxRecDepth 100000
namespace Ai
open Go Go.Proofs Go.Shelf Go.Sort Go.RowKit
theorem like_ds {s : St} {m : Own} {κ : Key} {e : TypeId} {sz : Nat} {els els' : List (List D)} (hH : s.H κ = some (.ds e sz els)) (hl : els'.length = els.length) : Like s.H (s.setH κ (.ds e sz els')).H m m := by
 refine ⟨fun o2 e2 cs2 h2 => ?_, fun o2 e2 sz2 els2 h2 => ?_, fun o2 e2 sz2 els2 h2 => ?_, fun o2 ag2 ps2 h2 => ?_⟩
 ·by_cases hne : o2 = κ
  ·subst hne; rw [hH] at h2; cases h2
  ·exact ⟨⟨cs2, by simp [St.setH, zC hne, h2]⟩, rfl⟩
 ·by_cases hne : o2 = κ
  ·subst hne
   rw [hH] at h2; injection h2 with h2; injection h2 with i1 i2 i3; subst i1 i2 i3
   exact ⟨⟨els', by simp [St.setH, zE], hl⟩, rfl⟩
  ·exact ⟨⟨els2, by simp [St.setH, zC hne, h2], rfl⟩, rfl⟩
 ·by_cases hne : o2 = κ
  ·subst hne; rw [hH] at h2; cases h2
  ·exact ⟨⟨els2, by simp [St.setH, zC hne, h2], rfl⟩, rfl⟩
 ·by_cases hne : o2 = κ
  ·subst hne; rw [hH] at h2; cases h2
  ·exact ⟨⟨ps2, by simp [St.setH, zC hne, h2]⟩, rfl⟩
def uY (xs : List Int) (n i : Nat) : List Int := vF (xs.take n) i (i + 1) ++ 0 :: xs.drop n
theorem kA {xs : List Int} {n i : Nat} (hn : n ≤ xs.length) (hi : i < n) : (uY xs n i).length = xs.length := by simp [uY, vF]; omega
theorem delIO_ok (xs : List Int) (n i : Nat) (hn : n ≤ xs.length) (hi : i < n) (hx : xs.length ≤ 1048576) (H0 : Key → Option Ob) (hH0 : H0 (.n 77) = some (.ds 3 1 (xs.map encInt))) :
  IOCall EE 84 [.ref (.n 77) 0 n, i64 i, i64 (i + 1 : Nat)] H0 (fun r H1 => r = .ref (.n 77) 0 (n - 1) ∧ H1 = fun κ => bif Key.beq κ (.n 77) then some (.ds 3 1 ((uY xs n i).map encInt)) else H0 κ) := by
 intro w0 A m w vs hHR hl hr
 have h1 : vs.size = 3 := hl.symm
 obtain ⟨v, u1, u2, rfl⟩ : ∃ v u1 u2, vs = #[v, u1, u2] := ⟨vs[0], vs[1], vs[2], by
  apply Array.ext (by simp [h1])
  intro i h2 h3
  simp at h3
  match i, h3 with
  | 0, _ => rfl
  | 1, _ => rfl
  | 2, _ => rfl⟩
 have hv := hr 0 _ v rfl rfl
 have hu1 := hr 1 _ u1 rfl rfl
 have hu2 := hr 2 _ u2 rfl rfl
 cases hu1 with
 |d _ _ hd1 =>
 cases hu2 with
 |d _ _ hd2 =>
 have e1 := oM hd1
 have e2 := oM hd2
 subst e1 e2
 cases hv with
 |ref0 _ e2 sz2 hH hm =>
  rw [hH0] at hH
  injection hH with hH
  injection hH with i1 i2 i3
  have : xs = [] := by cases xs with | nil => rfl | cons a b => simp at i3
  subst this
  simp at hn; omega
 |ref _ _ _ e2 sz2 els2 b full cap hH hn2 hm hcap hnc =>
  rw [hH0] at hH
  injection hH with hH
  injection hH with i1 i2 i3
  subst i1 i2 i3
  have hcf := hcap rfl
  subst hcf
  rcases hHR.objs _ _ hH0 with ⟨hm2, _⟩ | ⟨b2, full2, cur, hm2, hbb, hcur, hlen, hmax, hsz, hc⟩
  ·rw [hm] at hm2; cases hm2
  rw [hm] at hm2
  injection hm2 with hm2
  injection hm2 with j1 j2
  subst j1 j2
  have hzl : (xs.take n).length = n := by simp; omega
  have hcl : xs.length ≤ cap := by simpa using hlen
  have hcell : ∀ t (ht : t < xs.length), cur[t]? = some (.int .i64 xs[t]) := by
   intro t ht
   obtain ⟨u, hu, hrr⟩ := (hc t [di xs[t]] (by rw [List.getElem?_map, List.getElem?_eq_getElem ht]; rfl)).2 0 _ rfl
   cases hrr
   simpa using hu
  have hHo : Holds (Value.int .i64) w b 0 (xs.take n).toArray := by
   intro t ht2
   have ht2 : t < n := by simpa [hzl] using ht2
   have ht3 : t < xs.length := by omega
   constructor
   ·simp only [World.cell?, hcur, Nat.zero_add, hcell t ht3]
    simp [ht2, ht3]
   ·simp [World.frozen?, hcur]
  have hml : maxLen = 9223372036854775807 := rfl
  have hdel := Any.slices_Delete_int Tryz.laysDelete b 0 cap i (i + 1) (xs.take n) w hHo (by omega) (by omega) (by omega) (by omega)
  rw [hzl] at hdel
  unfold Invokes
  rw [show Sem.run EE.P (callFunc 84 _) w = _ from ent84 _ w]
  refine Calls.mono (show Calls Tryz.prog 84 _ _ _ from hdel) ?_
  rintro e w' ⟨rfl, q, rfl⟩
  have hcur2 : (Sort.ahead w q).heap[b]? = some (.cells cur 3 (0, 0)) := hcur
  have hbl : b < w.heap.size := (Array.getElem?_eq_some_iff.1 hcur).1
  have hd : ((xs.take n).take i ++ (xs.take n).drop (i + 1) ++ List.replicate (i + 1 - i) 0).toArray.size = n := by simp; omega
  have hdl : (xs.take n).take i ++ (xs.take n).drop (i + 1) ++ List.replicate (i + 1 - i) 0 = vF (xs.take n) i (i + 1) ++ [0] := by
   rw [show i + 1 - i = 1 by omega]; rfl
  generalize har : ((xs.take n).take i ++ (xs.take n).drop (i + 1) ++ List.replicate (i + 1 - i) 0).toArray = ar at *
  have hS := (hHR.toS).update (w' := putRow (Value.int .i64) (Sort.ahead w q) b 0 ar) (.n 77) _ (.ds 3 1 ((uY xs n i).map encInt)) hH0 (like_ds hH0 (by simp [kA hn hi])) b cap hm
   ⟨hHR.below.os, hHR.below.tape, hHR.below.output, by rw [size_putRow]; exact hHR.below.size, fun k hk => by rw [pJ _ _ _ _ _ _ (by omega)]; exact hHR.below.block k hk⟩ (by rw [size_putRow]; rfl)
   (fun k hk => by rw [pJ _ _ _ _ _ _ hk]; rfl) ?_ (fun _ _ h => by cases h)
  ·refine ⟨_, rfl, _, _, m, ⟨rfl, rfl⟩, hS.toH, ?_⟩
   have := VRel.ref (w := putRow (Value.int .i64) (Sort.ahead w q) b 0 ar) (ok := okB A.A (St.setH (.n 77) (.ds 3 1 ((uY xs n i).map encInt)) ⟨fun _ => .junk, H0⟩).H m (putRow (Value.int .i64) (Sort.ahead w q) b 0 ar)) (m := m) (H := (St.setH (.n 77) (.ds 3 1 ((uY xs n i).map encInt)) ⟨fun _ => .junk, H0⟩).H) (.n 77) 0 (n - 1) 3 1 ((uY xs n i).map encInt) b cap cap
    (by simp [St.setH, zE]) (by simp [kA hn hi]; omega) hm (fun _ => rfl) (by omega)
   rw [show n - (i + 1 - i) = n - 1 by omega]
   exact this
  ·refine .inr ⟨b, cap, _, hm, hbb, putRow_at _ _ _ _ hcur2, by simp [kA hn hi]; omega, hmax, by simp [putCells, hsz], fun j c hj => ?_⟩
   rw [List.getElem?_map, Option.map_eq_some_iff] at hj
   obtain ⟨x, hx2, rfl⟩ := hj
   refine ⟨rfl, fun t d ht => ?_⟩
   match t, ht with
   | 0, ht =>
    simp only [encInt, List.getElem?_cons_zero, Option.some.injEq] at ht
    subst ht
    refine ⟨.int .i64 x, ?_, .int _ _⟩
    rw [Nat.mul_one, Nat.add_zero]
    have hxl := (List.getElem?_eq_some_iff.1 hx2).1
    rw [kA hn hi] at hxl
    have e : uY xs n i = (vF (xs.take n) i (i + 1) ++ [0]) ++ xs.drop n := by simp [uY]
    rw [e] at hx2
    have hal : (vF (xs.take n) i (i + 1) ++ [0]).length = n := by simp [vF]; omega
    by_cases hjn : j < n
    ·rw [List.getElem?_append_left (by omega)] at hx2
     rw [iV _ _ _ (by omega) (by omega)]
     have : ar[j]'(by omega) = x := by
      have h3 : ar.toList[j]? = some x := by rw [← har, ← hx2, hdl]
      rw [Array.getElem?_toList, Array.getElem?_eq_getElem (by omega)] at h3
      exact Option.some.inj h3
     rw [this]
    ·rw [List.getElem?_append_right (by omega), hal, List.getElem?_drop, show n + (j - n) = j by omega] at hx2
     have h4 := hcell j hxl
     rw [List.getElem?_eq_getElem hxl] at hx2
     injection hx2 with hx2
     rw [hx2] at h4
     simp only [putCells, Array.getElem?_mapIdx, h4, Option.map_some, Nat.zero_le, true_and, Nat.zero_add, hd]
     rw [if_neg hjn]
   |t + 1, ht => simp [encInt] at ht
end Ai
end
section
set_option maxRecDepth 100000
namespace Ai
open Go Go.Proofs
theorem wdiv {a b : Nat} (ha : a ≤ 1048576) : IntKind.i64.wrap (Int.tdiv (a : Int) (b : Int)) = ((a / b : Nat) : Int) := by
 have h := Nat.div_le_self a b
 have e : Int.tdiv (a : Int) (b : Int) = ((a / b : Nat) : Int) := by
  rw [Int.tdiv_eq_ediv_of_nonneg (by omega)]; rfl
 rw [e]
 generalize a / b = c at *
 exact zD (by omega) (by omega)
theorem wmod {a b : Nat} : Int.tmod (a : Int) (b : Int) = ((a % b : Nat) : Int) := by
 rw [Int.tmod_eq_emod_of_nonneg (by omega)]; rfl
theorem nW : ∀ n, 0 < xU n
 | 0 => by decide
 |n + 1 => Nat.mul_pos (Nat.succ_pos _) (nW n)
structure PermP (F : List Nat) (out left : List Nat) (xs : List Int) (rank : Nat) : Prop where
 len : out.length ≤ 5
 ll : left.length = 5 - out.length
 xl : xs.length = 5
 row : xs.take (5 - out.length) = yE left
 rk : rank < xU (5 - out.length)
 fin : out ++ kM (5 - out.length) left rank = F
theorem natI_erase (l : List Nat) (i : Nat) : (yE l).eraseIdx i = yE (l.eraseIdx i) := by
 apply List.ext_getElem?
 intro j
 simp only [yE, List.getElem?_eraseIdx, List.getElem?_map]
 split <;> rfl
theorem PermP.step {F out left : List Nat} {xs : List Int} {rank f : Nat} (h : PermP F out left xs rank) (hf : 5 - out.length = f + 1) :
  rank / xU f < f + 1 ∧ PermP F (out ++ [left.getD (rank / xU f) 0]) (left.eraseIdx (rank / xU f)) (uY xs (f + 1) (rank / xU f)) (rank % xU f) := by
 have hrk := h.rk
 rw [hf] at hrk
 have hpos := nW f
 have hat : rank / xU f < f + 1 := (Nat.div_lt_iff_lt_mul hpos).2 hrk
 have hl := h.len
 have hll := h.ll
 have hn : 5 - (out ++ [left.getD (rank / xU f) 0]).length = f := by simp; omega
 refine ⟨hat, ⟨by simp; omega, ?_, ?_, ?_, ?_, ?_⟩⟩
 ·rw [hn, List.length_eraseIdx_of_lt (by omega)]; omega
 ·rw [kA (by rw [h.xl]; omega) hat, h.xl]
 ·rw [hn]
  have hrow := h.row
  rw [hf] at hrow
  unfold uY
  rw [hrow]
  have e : vF (yE left) (rank / xU f) (rank / xU f + 1) = yE (left.eraseIdx (rank / xU f)) := by
   rw [← natI_erase, List.eraseIdx_eq_take_drop_succ]; rfl
  rw [e, List.take_append_of_le_length (by simp [yE, List.length_eraseIdx]; split <;> omega), List.take_of_length_le (by simp [yE, List.length_eraseIdx]; split <;> omega)]
 ·rw [hn]; exact Nat.mod_lt _ hpos
 ·rw [hn, ← h.fin, hf, kM, List.append_assoc]; rfl
theorem pctAt_ok (k d i : Nat) (hk : k ≤ 6) (hd : d ≤ 1) (hi : i < 120 * vO k d) : CallsTo EE 61 [i64 5, i64 k, i64 d, i64 i] (· = agg (wX (uL k d i))) := by
 have hc := eX k d (by omega) hd
 refine callsTo_of_AW (fn := Tryz.f61) Tryz.func61 rfl (by kernel_rfl) rfl ?_
 conv => whnf
 refine yF (fun j : Nat => [(0, i64 5), (1, i64 k), (2, i64 d), (3, i64 i), (8, .ptr (.n 8) 0), (9, .ptr (.n 9) 0), (10, .ref (.n 22) 0 j), (23, i64 5), (24, i64 j)]) (fun j => [(.n 8, .vs 70 [.d .nil, .d .nil]), (.n 9, .vs 70 [.ref (.n 19) 0 0, .ref (.n 20) 0 0]), (.n 19, .ds 3 1 []), (.n 20, .ds 3 1 []), (.n 22, .ds 3 1 ((List.range j).map yA))]) (fun j => 5 - j) (fun j => j ≤ 5) 0
  Weak.refl ⟨rfl, rfl, rfl, rfl, rfl, rfl, rfl, rfl, rfl, trivial⟩ ⟨rfl, rfl, rfl, rfl, rfl, trivial⟩ (Nat.zero_le _) ?_
 intro j τ H hj
 have hj : j ≤ 5 := hj
 conv => whnf
 refine kbi (fun h => ?_) (fun h => ?_)
 ·have hlt : j < 5 := by have := of_decide_eq_true h; omega
  conv => whnf
  refine ⟨⟨rfl, by show (j + 1) * 8 ≤ _; omega, by show j + 1 ≤ _; omega⟩, ?_⟩
  conv => whnf
  refine ⟨j + 1, by show j + 1 ≤ 5; omega, by show 5 - (j + 1) < 5 - j; omega, ⟨rfl, rfl, rfl, rfl, rfl, rfl, rfl, rfl, zH hlt (by omega), trivial⟩, ⟨rfl, rfl, rfl, rfl, ?_, trivial⟩⟩
  show some (Ob.ds 3 1 (((List.range j).map yA).take j ++ [yA j])) = some (Ob.ds 3 1 ((List.range (j + 1)).map yA))
  rw [List.take_of_length_le (by simp), List.range_succ, List.map_append]
  rfl
 ·have hge : j = 5 := by
   have : ¬ (j : Int) < 5 := fun e => h (decide_eq_true e)
   omega
  subst hge
  have hc0 : vO k d ≠ 0 := by intro e; rw [e] at hi; omega
  have hc6 : vO k d ≤ 6 := by unfold vO; split <;> omega
  conv => whnf
  refine ⟨by kernel_rfl, ?_⟩
  conv => whnf
  refine ⟨_, hc, ?_⟩
  conv => whnf
  refine ⟨by omega, ?_⟩
  conv => whnf
  refine ⟨_, hc, ?_⟩
  conv => whnf
  refine ⟨by omega, ?_⟩
  conv => whnf
  rw [wdiv (by omega), wmod]
  have hP0 : PermP (kM 5 [0, 1, 2, 3, 4] (i / vO k d)) [] [0, 1, 2, 3, 4] [0, 1, 2, 3, 4] (i / vO k d) := ⟨by decide, rfl, rfl, rfl, (Nat.div_lt_iff_lt_mul (by omega)).2 hi, rfl⟩
  have hi1 : i / vO k d ≤ 1048576 := Nat.le_trans (Nat.div_le_self _ _) (by omega)
  have hi2 : i % vO k d < vO k d := Nat.mod_lt _ (by omega)
  have hfin : uL k d i = (kM 5 [0, 1, 2, 3, 4] (i / vO k d), if d = 0 then [] else [i % vO k d]) := rfl
  rw [hfin]
  generalize kM 5 [0, 1, 2, 3, 4] (i / vO k d) = F at hP0 ⊢
  generalize i / vO k d = rank0 at hP0 hi1 ⊢
  generalize hch : i % vO k d = ch at hi2 ⊢
  refine bG (fun x : List Nat × List Nat × List Int × Nat => [(0, i64 5), (1, i64 k), (2, i64 d), (8, .ptr (.n 8) 0), (9, .ptr (.n 9) 0), (10, .ref (.n 22) 0 (5 - x.1.length)), (12, i64 (x.2.2.2 : Nat)), (13, i64 (ch : Nat)), (14, i64 ((5 - x.1.length : Nat) : Int))])
   (fun x => [(.n 8, .vs 70 [.d .nil, .d .nil]), (.n 9, .vs 70 [.ref (.n 19) 0 x.1.length, .ref (.n 20) 0 0]), (.n 19, .ds 3 1 (x.1.map yA)), (.n 20, .ds 3 1 []), (.n 22, .ds 3 1 (x.2.2.1.map encInt))]) (fun _ => []) (fun x => 5 - x.1.length) (fun x => PermP F x.1 x.2.1 x.2.2.1 x.2.2.2) ([], [0, 1, 2, 3, 4], [0, 1, 2, 3, 4], rank0)
   Weak.refl ⟨rfl, rfl, rfl, rfl, rfl, rfl, rfl, rfl, rfl, trivial⟩ ⟨rfl, rfl, rfl, rfl, rfl, trivial⟩ trivial hP0 ?_
  rintro ⟨out, left, xs, rank⟩ τ H hP
  have hP : PermP F out left xs rank := hP
  have hol := hP.len
  conv => whnf
  refine kbi (fun h => ?_) (fun h => ?_)
  ·have hpos : 0 < 5 - out.length := by
    have : ((5 - out.length : Nat) : Int) > 0 := of_decide_eq_true h
    omega
   obtain ⟨f, hf⟩ : ∃ f, 5 - out.length = f + 1 := ⟨5 - out.length - 1, by omega⟩
   obtain ⟨hat, hP2⟩ := hP.step hf
   have hfc := fact_ok f (by omega)
   have hw1 : IntKind.i64.wrap (((5 - out.length : Nat) : Int) - 1) = (f : Int) := by rw [hf, zD (by omega) (by omega)]; omega
   have hf0 := nW f
   have hf120 := tK f (by omega)
   have hrk : rank < xU (f + 1) := hf ▸ hP.rk
   have hrk2 := tK (f + 1) (by omega)
   have hll := hP.ll
   have hxl := hP.xl
   have hrow := hP.row
   rw [← hw1] at hfc
   have hwd := wdiv (a := rank) (b := xU f) (by omega)
   have hwm := wmod (a := rank) (b := xU f)
   have hag : (xs.map encInt)[rank / xU f]? = some (yA (left.getD (rank / xU f) 0)) := by
    have h1 : (xs.take (5 - out.length))[rank / xU f]? = some ((left.getD (rank / xU f) 0 : Nat) : Int) := by
     rw [hrow, yE, List.getElem?_map, List.getD_eq_getElem?_getD, List.getElem?_eq_getElem (by omega)]; rfl
    rw [List.getElem?_take_of_lt (by omega)] at h1
    rw [List.getElem?_map, h1]; rfl
   generalize hav : rank / xU f = at' at *
   conv => whnf
   refine ⟨_, hfc, ?_⟩
   rintro r rfl
   conv => whnf
   refine ⟨by omega, ?_⟩
   conv => whnf
   refine ⟨_, hfc, ?_⟩
   rintro r rfl
   conv => whnf
   refine ⟨by omega, ?_⟩
   conv => whnf
   rw [hwd, hwm]
   refine .inr (.inl ⟨7, [], ?_⟩)
   conv => whnf
   refine ⟨⟨by omega, by show (at' : Int) < ((5 - out.length : Nat) : Int); omega⟩, ?_⟩
   conv => whnf
   refine ⟨yA (left.getD at' 0), ⟨?_, Nat.le_refl _⟩, ?_⟩
   ·show (xs.map encInt)[0 + ((at' : Nat) : Int).toNat]? = _
    rw [Nat.zero_add]; exact hag
   conv => whnf
   refine ⟨by kernel_rfl, ?_⟩
   conv => whnf
   refine ⟨⟨rfl, by show (out.length + 1) * 8 ≤ _; omega, by show out.length + 1 ≤ _; omega⟩, ?_⟩
   conv => whnf
   have hw2 : IntKind.i64.wrap ((at' : Int) + 1) = ((at' + 1 : Nat) : Int) := by rw [zD (by omega) (by omega)]; rfl
   refine .inr (.inr (.inr (.inl ⟨_, 84, [], wM 22 77, rfl, 999, 99, isK (.n 77), _, mK (delIO_ok xs (5 - out.length) at' (by omega) (by omega) (by omega) _ rfl) ?_, rfl, ?_⟩)))
   ·rw [← hw2]; rfl
   rintro r H1 ⟨rfl, rfl⟩
   refine ⟨fun κ hκ => ?_, fun n hn => (by cases hn), ?_⟩
   ·have hκ' : κ.beq (.n 77) = false := hκ
    show (bif κ.beq (.n 77) then _ else yK _ _ κ) = none
    rw [hκ', cond_false]
    exact mH hκ
   have hlo : (out ++ [left.getD at' 0]).length = out.length + 1 := by simp
   conv => whnf
   refine ⟨(out ++ [left.getD at' 0], left.eraseIdx at', uY xs (f + 1) at', rank % xU f), _, wM 77 22, hP2, ?_, ⟨rfl, rfl, rfl, rfl, rfl, ?_, rfl, rfl, ?_, trivial⟩, ⟨rfl, ?_, ?_, rfl, ?_, trivial⟩, trivial⟩
   ·show 5 - (out ++ [left.getD at' 0]).length < 5 - out.length
    omega
   ·show AV.ref (.n 22) 0 (5 - out.length - 1) = .ref (.n 22) 0 (5 - (out ++ [left.getD at' 0]).length)
    rw [hlo]; exact congrArg (AV.ref (.n 22) 0) (by omega)
   ·show i64 (IntKind.i64.wrap (((5 - out.length : Nat) : Int) - 1)) = i64 ((5 - (out ++ [left.getD at' 0]).length : Nat) : Int)
    rw [hw1, hlo]; exact congrArg i64 (by omega)
   ·show some (Ob.vs 70 [.ref (.n 19) 0 (out.length + 1), .ref (.n 20) 0 0]) = some (Ob.vs 70 [.ref (.n 19) 0 (out ++ [left.getD at' 0]).length, .ref (.n 20) 0 0])
    rw [hlo]
   ·show some (Ob.ds 3 1 ((out.map yA).take out.length ++ [yA (left.getD at' 0)])) = some (Ob.ds 3 1 ((out ++ [left.getD at' 0]).map yA))
    rw [List.take_of_length_le (by simp), List.map_append]; rfl
   ·show some (Ob.ds 3 1 ((uY xs (5 - out.length) at').map encInt)) = some (Ob.ds 3 1 ((uY xs (f + 1) at').map encInt))
    rw [hf]
  ·have h5 : out.length = 5 := by
    have : ¬ ((5 - out.length : Nat) : Int) > 0 := fun e => h (decide_eq_true e)
    omega
   have hF : out = F := by
    have := hP.fin
    rw [h5] at this
    simpa [kM] using this
   subst hF
   clear hP h
   conv => whnf
   refine yF (fun _ : Unit => [(1, i64 k), (2, i64 d), (8, .ptr (.n 8) 0), (9, .ptr (.n 9) 0), (13, i64 (ch : Nat)), (16, i64 5)]) (fun _ => [(.n 8, .vs 70 [.d .nil, .d .nil]), (.n 9, .vs 70 [.ref (.n 19) 0 5, .ref (.n 20) 0 0]), (.n 19, .ds 3 1 (out.map yA)), (.n 20, .ds 3 1 [])]) (fun _ => 0) (fun _ => True) ()
    Weak.refl ⟨rfl, rfl, rfl, rfl, rfl, rfl, trivial⟩ ⟨rfl, ?_, rfl, rfl, trivial⟩ trivial ?_
   ·show some (Ob.vs 70 [.ref (.n 19) 0 out.length, .ref (.n 20) 0 0]) = _
    rw [h5]
   intro _ τ H _
   conv => whnf
   refine kbi (fun h => absurd h (by simp)) (fun _ => ?_)
   conv => whnf
   have hfz : ((out.map yA).drop 0).take 5 = out.map yA := by rw [List.drop_zero, List.take_of_length_le (by simp [h5])]
   rcases (show d = 0 ∨ d = 1 by omega) with rfl | rfl
   ·refine yF (fun _ : Unit => [(2, i64 0), (8, .ptr (.n 8) 0), (9, .ptr (.n 9) 0)]) (fun _ => [(.n 8, .vs 70 [.d .nil, .d .nil]), (.n 9, .vs 70 [.ref (.n 19) 0 5, .ref (.n 20) 0 0]), (.n 19, .ds 3 1 (out.map yA)), (.n 20, .ds 3 1 [])]) (fun _ => 0) (fun _ => True) ()
     Weak.refl ⟨rfl, rfl, rfl, trivial⟩ ⟨rfl, rfl, rfl, rfl, trivial⟩ trivial ?_
    intro _ τ H _
    conv => whnf
    refine kbi (fun h => absurd h (by simp)) (fun _ => ?_)
    conv => whnf
    refine .inl ?_
    show AV.agg [.d (.sl (((out.map yA).drop 0).take 5)), .d (.sl [])] = _
    rw [hfz]; rfl
   ·refine yF (fun x : Nat × Bool => [(1, i64 k), (2, i64 (if x.2 then 0 else 1)), (8, .ptr (.n 8) 0), (9, .ptr (.n 9) 0), (13, i64 (if x.2 then 0 else (ch : Int) - x.1)), (17, i64 x.1)])
     (fun x => [(.n 8, .vs 70 [.d .nil, .d .nil]), (.n 9, .vs 70 [.ref (.n 19) 0 5, .ref (.n 20) 0 (if x.2 then 1 else 0)]), (.n 19, .ds 3 1 (out.map yA)), (.n 20, .ds 3 1 (if x.2 then [yA ch] else []))]) (fun x => if x.2 then 0 else ch + 1 - x.1) (fun x => x.1 ≤ ch + 1 ∧ (x.2 = false → x.1 ≤ ch)) (0, false)
     Weak.refl ⟨rfl, rfl, rfl, rfl, ?_, rfl, trivial⟩ ⟨rfl, rfl, rfl, rfl, trivial⟩ ⟨by simp, by simp⟩ ?_
    ·exact congrArg i64 (by simp)
    rintro ⟨n, w⟩ τ H ⟨hn, hnc⟩
    have hn : n ≤ ch + 1 := hn
    cases w with
    |true =>
     conv => whnf
     refine kbi (fun h => absurd h (by simp)) (fun _ => ?_)
     conv => whnf
     refine .inl ?_
     show AV.agg [.d (.sl (((out.map yA).drop 0).take 5)), .d (.sl [yA ch])] = _
     rw [hfz]; rfl
    |false =>
     have hnc : n ≤ ch := hnc rfl
     have hcc : vO k 1 = k := rfl
     conv => whnf
     refine kbi (fun _ => ?_) (fun h => absurd rfl h)
     have hch0 : CallsTo EE 97 [i64 (IntKind.i64.wrap (IntKind.i64.wrap ((k : Int) - n) - 1)), i64 (IntKind.i64.wrap (1 - 1))] (· = i64 1) := by
      rw [show IntKind.i64.wrap (1 - 1) = 0 from by rw [zD (by omega) (by omega)]; rfl]; exact tT _
     conv => whnf
     refine ⟨_, hch0, ?_⟩
     rintro r rfl
     conv => whnf
     refine kbi (fun h => ?_) (fun h => ?_)
     ·have h : (ch : Int) - n < 1 := of_decide_eq_true h
      have : n = ch := by omega
      subst this
      conv => whnf
      refine ⟨⟨rfl, by show (0 + 1) * 8 ≤ _; omega, by show 0 + 1 ≤ _; omega⟩, ?_⟩
      conv => whnf
      refine ⟨(n + 1, true), ⟨Nat.le_refl _, fun e => (by cases e)⟩, by show 0 < n + 1 - n; omega, ⟨rfl, ?_, rfl, rfl, ?_, ?_, trivial⟩, ⟨rfl, rfl, rfl, rfl, trivial⟩⟩
      ·show i64 (IntKind.i64.wrap (1 - 1)) = i64 0
       rw [zD (by omega) (by omega)]; rfl
      ·show i64 ((n : Int) - n) = i64 0
       exact congrArg i64 (by omega)
      ·exact zH (Nat.lt_succ_self n) (by omega)
     ·have h : ¬ (ch : Int) - n < 1 := fun e => h (decide_eq_true e)
      conv => whnf
      refine ⟨(n + 1, false), ⟨by omega, fun _ => by show n + 1 ≤ ch; omega⟩, by show ch + 1 - (n + 1) < ch + 1 - n; omega, ⟨rfl, rfl, rfl, rfl, ?_, ?_, trivial⟩, ⟨rfl, rfl, rfl, rfl, trivial⟩⟩
      ·show i64 (IntKind.i64.wrap ((ch : Int) - n - 1)) = i64 ((ch : Int) - ((n + 1 : Nat) : Int))
       rw [zD (by omega) (by omega)]; exact congrArg i64 (by omega)
      ·exact zH (Nat.lt_succ_self n) (by omega)
end Ai
end
section
set_option maxRecDepth 100000
namespace Ai
open Go Go.Proofs
def cP (xs : List Int) (n : Int) : Option Nat := xs.findIdx? (· == n)
theorem IdxA_ok (xs : List Int) (n : Int) (hx : xs.length ≤ 1048576) : CallsTo EE 106 [sl (xs.map encInt), i64 n] (· = i64 (cR (cP xs n))) := by
 refine callsTo_of_AW (fn := Tryz.f106) Tryz.func106 rfl (by kernel_rfl) rfl ?_
 conv => whnf
 refine yF (fun k : Nat => [(0, sl (xs.map encInt)), (1, i64 n), (7, i64 (xs.map encInt).length), (8, i64 k)]) (fun k => []) (fun k => xs.length - k) (fun k => k ≤ xs.length ∧ ∀ x ∈ xs.take k, (x == n) = false) 0 .refl ⟨rfl, rfl, rfl, rfl, trivial⟩ trivial ⟨Nat.zero_le _, gM⟩ ?_
 rintro k τ H ⟨hk, ih⟩
 conv => whnf
 refine kbi (fun h => ?_) (fun h => ?_)
 ·have hlt := xO h
  conv => whnf
  refine ⟨encInt xs[k], zY encInt hlt rfl, ?_⟩
  conv => whnf
  refine kbi (fun h => ?_) (fun h => ?_)
  ·conv => whnf
   have h : n = xs[k] := by simpa using h
   have : cP xs n = some k := lB (f := (· == n)) hlt ih (by simp [h])
   rw [this]
   rfl
  ·conv => whnf
   have h : ¬ n = xs[k] := by simpa using h
   exact ⟨k + 1, ⟨by omega, jK ih hlt (by simp; exact fun e => h e.symm)⟩, by show xs.length - (k + 1) < xs.length - k; omega, ⟨rfl, rfl, rfl, zH hlt (by omega), trivial⟩, trivial⟩
 ·conv => whnf
  have : cP xs n = none := lC (f := (· == n)) (gN ih (by simp at h; omega))
  rw [this]
  rfl
end Ai
end
section
set_option maxRecDepth 100000
namespace Ai
open Go Go.Proofs Cyc
theorem best_ok (rk en : List Int) (he : en ≠ []) (hl : en.length ≤ 1048576) (hr : ∀ x ∈ en, 0 ≤ x ∧ x < rk.length) : CallsTo EE 103 [sl (en.map encInt), .fp [.sl (rk.map encInt)]] (· = i64 (yG rk en en.length : Nat)) := by
 refine callsTo_of_AW (fn := Tryz.f103) Tryz.func103 rfl (by kernel_rfl) rfl ?_
 conv => whnf
 refine yF (fun k : Nat => [(0, sl (en.map encInt)), (1, .fp [.sl (rk.map encInt)]), (4, i64 (yG rk en k : Nat)), (7, sl (en.map encInt)), (8, i64 (en.map encInt).length), (9, i64 k)]) (fun k => []) (fun k => en.length - k) (fun k => k ≤ en.length) 0
  Weak.refl ⟨rfl, rfl, rfl, rfl, rfl, rfl, trivial⟩ trivial (Nat.zero_le _) ?_
 intro k τ H hk
 have hk : k ≤ en.length := hk
 have ht := qS rk en he k hk
 conv => whnf
 refine kbi (fun h => ?_) (fun h => ?_)
 ·have hlt := xO h
  have h1 := hr _ (List.getElem_mem hlt)
  have h2 := hr _ (List.getElem_mem ht)
  have key : ∀ j (hj : j < en.length) (h3 : en[j].toNat < rk.length), nH rk en j = rk[en[j].toNat] := by
   intro j hj h3
   unfold nH
   rw [List.getD_eq_getElem?_getD, List.getD_eq_getElem?_getD, List.getElem?_eq_getElem hj, Option.getD_some, List.getElem?_eq_getElem h3, Option.getD_some]
  have e1 := key k hlt (by omega)
  have e2 := key _ ht (by omega)
  conv => whnf
  refine ⟨encInt en[k], zY encInt hlt rfl, ?_⟩
  conv => whnf
  refine ⟨by kernel_rfl, ?_⟩
  conv => whnf
  refine ⟨encInt (rk[en[k].toNat]'(by omega)), ⟨h1.1, by rw [List.getElem?_map, List.getElem?_eq_getElem (by omega)]; rfl, rfl⟩, ?_⟩
  conv => whnf
  refine ⟨encInt en[yG rk en k], zY encInt ht rfl, ?_⟩
  conv => whnf
  refine ⟨encInt (rk[en[yG rk en k].toNat]'(by omega)), ⟨h2.1, by rw [List.getElem?_map, List.getElem?_eq_getElem (by omega)]; rfl, rfl⟩, ?_⟩
  conv => whnf
  refine kbi (fun g => ?_) (fun g => ?_)
  ·have g : rk[en[k].toNat]'(by omega) > rk[en[yG rk en k].toNat]'(by omega) := of_decide_eq_true g
   have hn : yG rk en (k + 1) = k := by
    show (if _ then _ else _) = _
    rw [if_pos (by rw [e1, e2]; exact g)]
   conv => whnf
   refine ⟨k + 1, by show k + 1 ≤ en.length; omega, by show en.length - (k + 1) < en.length - k; omega, ⟨rfl, rfl, ?_, rfl, rfl, zH hlt (by omega), trivial⟩, trivial⟩
   show i64 (k : Int) = i64 (yG rk en (k + 1) : Nat)
   rw [hn]
  ·have g : ¬ rk[en[k].toNat]'(by omega) > rk[en[yG rk en k].toNat]'(by omega) := fun e => g (decide_eq_true e)
   have hn : yG rk en (k + 1) = yG rk en k := by
    show (if _ then _ else _) = _
    rw [if_neg (by rw [e1, e2]; exact g)]
   conv => whnf
   refine ⟨k + 1, by show k + 1 ≤ en.length; omega, by show en.length - (k + 1) < en.length - k; omega, ⟨rfl, rfl, ?_, rfl, rfl, zH hlt (by omega), trivial⟩, trivial⟩
   show i64 (yG rk en k : Nat) = i64 (yG rk en (k + 1) : Nat)
   rw [hn]
 ·have hkk : k = en.length := by
   have : ¬ k < en.length := by simpa using h
   omega
  subst hkk
  conv => whnf
  try rfl
def pkR (en : List Nat) (ch : List Int) (n : Nat) (rk : List Int) : List Int × Nat :=
 match cP ch n with
 |some i => (rk.set (en.getD (yG rk (yE en) en.length) 0) (-1 - (i : Int)), yG (rk.set (en.getD (yG rk (yE en) en.length) 0) (-1 - (i : Int))) (yE en) en.length)
 |none => (rk, yG rk (yE en) en.length)
def dY (pc : PctL) (rk : List Int) : Key → Option Ob
 | .l j => bif Nat.beq j 20 then some (.vs 137 [.fn 103 [.ptr (.l 22) 0]]) else bif Nat.beq j 21 then some (.vs 70 ((vW pc).map .d)) else bif Nat.beq j 22 then some (.vs 25 [.ref (.n 980) 0 5]) else none
 | .n j => bif Nat.beq j 980 then some (.ds 3 1 (rk.map encInt)) else none
 | .s _ _ => none
def pV : Key → Bool
 | .l j => Nat.beq j 20 || Nat.beq j 21 || Nat.beq j 22
 | .n j => Nat.beq j 980
 | .s _ _ => false
theorem aS {pc : PctL} {rk : List Int} : ∀ κ, pV κ = false → dY pc rk κ = none
 | .l j, h => by
  have h : (Nat.beq j 20 || Nat.beq j 21 || Nat.beq j 22) = false := h
  simp only [Bool.or_eq_false_iff] at h
  simp [dY, h.1.1, h.1.2, h.2]
 | .n j, h => by have h : Nat.beq j 980 = false := h; simp [dY, h]
 | .s o j, h => rfl
theorem mG {pc : PctL} {rk : List Int} {H : Key → Option Ob} (h0 : H (.l 20) = some (.vs 137 [.fn 103 [.ptr (.l 22) 0]])) (h1 : H (.l 21) = some (.vs 70 ((vW pc).map .d))) (h2 : H (.l 22) = some (.vs 25 [.ref (.n 980) 0 5])) (h3 : H (.n 980) = some (.ds 3 1 (rk.map encInt))) : yK pV H = dY pc rk := by
 funext κ
 cases hk : pV κ with
 |false => rw [aS κ hk, mH hk]
 |true =>
  rw [vT hk]
  cases κ with
  |l j =>
   have hk : (Nat.beq j 20 || Nat.beq j 21 || Nat.beq j 22) = true := hk
   simp only [Bool.or_eq_true] at hk
   rcases hk with (hk | hk) | hk
   ·have := Nat.eq_of_beq_eq_true hk
    subst this; rw [h0]; rfl
   ·have := Nat.eq_of_beq_eq_true hk
    subst this; rw [h1]; rfl
   ·have := Nat.eq_of_beq_eq_true hk
    subst this; rw [h2]; rfl
  |n j =>
   have := Nat.eq_of_beq_eq_true (show Nat.beq j 980 = true from hk)
   subst this
   rw [h3]; rfl
  |s o j => cases hk
theorem pickR_ok (pc : PctL) (hch : pc.changes.length ≤ 1000) (rk : List Int) (hrl : rk.length = 5) (en : List Nat) (he : en ≠ []) (h5 : en.length ≤ 5) (hel : ∀ k ∈ en, k < 5) (n : Nat) :
  IOCall EE 105 [sl (en.map yA), i64 n, .ptr (.l 20) 0, .ptr (.l 21) 0, .ptr (.l 22) 0] (dY pc rk) (fun r H1 => r = i64 ((pkR en pc.changes n rk).2 : Nat) ∧ H1 = dY pc (pkR en pc.changes n rk).1) := by
 have hne : yE en ≠ [] := by intro e; simp [yE] at e; exact he e
 have hnl : (yE en).length = en.length := by simp [yE]
 have hin : ∀ (rk' : List Int), rk'.length = 5 → ∀ x ∈ yE en, 0 ≤ x ∧ x < rk'.length := by
  intro rk' h x hx
  obtain ⟨k, hk, rfl⟩ := List.mem_map.1 hx
  have := hel k hk
  omega
 have htop : ∀ (rk' : List Int), rk'.length = 5 → CallsTo EE 103 [sl (en.map yA), .fp [.sl (((rk'.map encInt).drop 0).take 5)]] (· = i64 (yG rk' (yE en) en.length : Nat)) := by
  intro rk' h
  have := best_ok rk' (yE en) hne (by omega) (hin rk' h)
  rwa [hnl, ← qW, show rk'.map encInt = ((rk'.map encInt).drop 0).take 5 by rw [List.drop_zero, List.take_of_length_le (by simp [h])]] at this
 have hk0 : yG rk (yE en) en.length < en.length := by have := qS rk (yE en) hne en.length (by omega); omega
 have hidx := IdxA_ok pc.changes (n : Int) (by omega)
 refine fV (fn := Tryz.f105) (c := Tryz.f105.body.getD .skip) Tryz.func105 rfl (by kernel_rfl) rfl ?_
 conv => whnf
 refine .inl ⟨_, htop rk hrl, ?_⟩
 rintro r rfl
 refine ⟨rfl, ?_⟩
 conv => whnf
 refine ⟨_, hidx, ?_⟩
 rintro r rfl
 conv => whnf
 unfold pkR
 cases hi : cP pc.changes n with
 |none =>
  refine kbi (fun h => absurd h (by simp [hi, cR])) (fun _ => ?_)
  conv => whnf
  refine ⟨_, Weak.refl, ?_⟩
  conv => whnf
  exact ⟨pV, rfl, mG rfl rfl rfl rfl⟩
 |some i =>
  refine kbi (fun _ => ?_) (fun h => absurd h (by simp [hi, cR]))
  have hil : i < pc.changes.length := by
   unfold cP at hi
   exact (List.findIdx?_eq_some_iff_getElem.1 hi).1
  generalize yG rk (yE en) en.length = k0 at *
  have hkm : en.getD k0 0 ∈ en := by rw [List.getD_eq_getElem?_getD, List.getElem?_eq_getElem hk0]; exact List.getElem_mem hk0
  have hk5 := hel _ hkm
  have hw1 : IntKind.i64.wrap (-1 - (i : Int)) = -1 - (i : Int) := zD (by omega) (by omega)
  have hse : uQ (rk.map encInt) 1 (0 + ((en.getD k0 0 : Nat) : Int).toNat) 0 [di (IntKind.i64.wrap (-1 - (i : Int)))] = (rk.set (en.getD k0 0) (-1 - (i : Int))).map encInt := by rw [hw1, aI]
  have ht2 := htop (rk.set (en.getD k0 0) (-1 - (i : Int))) (by simp [hrl])
  rw [← hse] at ht2
  conv => whnf
  refine .inr (.inl ⟨7, [], ?_⟩)
  conv => whnf
  refine ⟨yA (en.getD k0 0), ⟨by omega, en_get hk0, rfl⟩, ?_⟩
  conv => whnf
  refine ⟨by kernel_rfl, ?_⟩
  conv => whnf
  refine ⟨⟨by omega, by omega⟩, ?_⟩
  conv => whnf
  refine .inl ⟨_, ht2, ?_⟩
  rintro r rfl
  refine ⟨rfl, ?_⟩
  conv => whnf
  refine ⟨_, Weak.refl, ?_⟩
  conv => whnf
  exact ⟨pV, rfl, mG rfl rfl rfl (congrArg (fun x => some (Ob.ds 3 1 x)) hse)⟩
end Ai
end
section
set_option maxRecDepth 100000
namespace Ai
open Go Go.Proofs
def pkV : AV := .fn 105 [.ptr (.l 20) 0, .ptr (.l 21) 0, .ptr (.l 22) 0]
structure R13p (p : ProgL) (s s1 : StL) (ev : Ev) (tr : List Ev) (tk : List Int) (kk : Int) (w : Nat) (budget : Int) (pc : PctL) (rk : List Int) (L : Nat → Bool) (S : St) : Prop where
 u1 : S.τ 1 = i64 budget
 u2 : S.τ 2 = pkV
 u3 : S.τ 3 = .ptr (.n 3) 0
 u6 : S.τ 6 = .ptr (.n 6) 0
 u7 : S.τ 7 = bv false
 u8 : S.τ 8 = .ptr (.n 8) 0
 u9 : S.τ 9 = i64 tr.length
 u10 : S.τ 10 = sl ((zA p s).map yA)
 u11 : S.τ 11 = i64 kk
 h3 : S.H (.n 3) = some (.vs 31 ((encProg p).map .d))
 h6 : S.H (.n 6) = some (.vs 78 [i64 0, .d .nil, .d .nil, .d .nil, .d .nil, .d .nil, i64 0])
 x20 : S.H (.l 20) = some (.vs 137 [.fn 103 [.ptr (.l 22) 0]])
 x21 : S.H (.l 21) = some (.vs 70 ((vW pc).map .d))
 x22 : S.H (.l 22) = some (.vs 25 [.ref (.n 980) 0 5])
 x98 : S.H (.n 980) = some (.ds 3 1 (rk.map encInt))
 h13 : S.H (.n 13) = some (.ds 3 1 ((tk ++ [kk]).map encInt))
 c0 : L 0 = true → S.τ 50 = .ptr (.n 8) (0 + 1)
 c1 : L 1 = true → L 10 = false → S.τ 51 = .ref (.n 12) 0 tr.length
 c2 : L 2 = true → S.τ 52 = .ptr (.n 8) (0 + 3)
 c3 : L 3 = true → S.τ 53 = agg (encProg p)
 c4 : L 4 = true → S.τ 54 = sl ((zA p s).map yA)
 c5 : L 5 = true → S.τ 55 = i64 kk
 c6 : L 6 = true → S.τ 56 = .fp (yA w)
 c7 : L 7 = true → S.τ 57 = i64 w
 c8 : L 8 = true → S.τ 58 = agg (encEv ev)
 c9 : L 9 = true → L 10 = false → S.τ 59 = .ref (.n 59) 0 1
 c10 : L 10 = true → S.τ 60 = .ref (.n 12) 0 (tr.length + 1)
 c11 : L 11 = true → S.τ 61 = .ptr (.n 8) (0 + 1)
 e9 : L 9 = true → L 10 = false → S.H (.n 59) = some (.ds 120 5 [encEv ev])
 d12a : L 10 = false → S.H (.n 12) = some (.ds 120 5 (tr.map encEv))
 d12b : L 10 = true → S.H (.n 12) = some (.ds 120 5 ((tr ++ [ev]).map encEv))
 d8a : L 8 = false → S.H (.n 8) = some (.vs 78 ([i64 0, .ref (.n 12) 0 tr.length, .ref (.n 13) 0 (tk.length + 1)] ++ stRef s))
 d8b : L 8 = true → L 10 = false → S.H (.n 8) = some (.vs 78 ([i64 0, .ref (.n 12) 0 tr.length, .ref (.n 13) 0 (tk.length + 1)] ++ stRef s1))
 d8c : L 10 = true → L 12 = false → S.H (.n 8) = some (.vs 78 ([i64 0, .junk, .ref (.n 13) 0 (tk.length + 1)] ++ stRef s1))
 d8d : L 12 = true → S.H (.n 8) = some (.vs 78 ([i64 0, .ref (.n 12) 0 (tr.length + 1), .ref (.n 13) 0 (tk.length + 1)] ++ stRef s1))
 sa0 : L 8 = false → S.H (.n 900) = some (.rs 123 6 (thRows 900 s.ths))
 saF : L 8 = false → ∀ j, S.H (.s 900 j) = zQ s.ths j
 sa1 : L 8 = false → S.H (.n 901) = some (.ds 105 1 (s.cells.map encF))
 sa2 : L 8 = false → S.H (.n 902) = some (.ds 3 1 (s.owner.map encInt))
 sb0 : L 8 = true → S.H (.n 900) = some (.rs 123 6 (thRows 900 s1.ths))
 sbF : L 8 = true → ∀ j, S.H (.s 900 j) = zQ s1.ths j
 sb1 : L 8 = true → S.H (.n 901) = some (.ds 105 1 (s1.cells.map encF))
 sb2 : L 8 = true → S.H (.n 902) = some (.ds 3 1 (s1.owner.map encInt))
 o1 : L 10 = true → L 8 = true
 o2 : L 12 = true → L 10 = true
 o3 : L 10 = true → L 1 = true
 o4 : L 10 = true → L 9 = true
theorem op13p_0 {p : ProgL} {s s1 : StL} {ev : Ev} {tr : List Ev} {tk : List Int} {kk : Int} {w : Nat} {budget : Int} {pc : PctL} {rk : List Int} (L : Nat → Bool) (S : St) (r : R13p p s s1 ev tr tk kk w budget pc rk L S) (hL : L 0 = false) : aDo EE Tryz.f104.ntmps ops13 (ops13[0]'(by decide)) S (R13p p s s1 ev tr tk kk w budget pc rk (fun j => L j || j == 0)) := by
 have hat : At [(8, .ptr (.n 8) 0)] [] [] S := ⟨⟨r.u8, trivial⟩, trivial, trivial⟩
 obtain ⟨τ, H, rfl⟩ := hat.form
 conv => whnf
 exact {
  u1 := r.u1
  u2 := r.u2
  u3 := r.u3
  u6 := r.u6
  u7 := r.u7
  u8 := r.u8
  u9 := r.u9
  u10 := r.u10
  u11 := r.u11
  h3 := r.h3
  h6 := r.h6
  x20 := r.x20
  x21 := r.x21
  x22 := r.x22
  x98 := r.x98
  h13 := r.h13
  c0 := fun _ => rfl
  c1 := fun g0 g1 => r.c1 (by simpa using g0) (by simpa using g1)
  c2 := fun g0 => r.c2 (by simpa using g0)
  c3 := fun g0 => r.c3 (by simpa using g0)
  c4 := fun g0 => r.c4 (by simpa using g0)
  c5 := fun g0 => r.c5 (by simpa using g0)
  c6 := fun g0 => r.c6 (by simpa using g0)
  c7 := fun g0 => r.c7 (by simpa using g0)
  c8 := fun g0 => r.c8 (by simpa using g0)
  c9 := fun g0 g1 => r.c9 (by simpa using g0) (by simpa using g1)
  c10 := fun g0 => r.c10 (by simpa using g0)
  c11 := fun g0 => r.c11 (by simpa using g0)
  e9 := fun g0 g1 => r.e9 (by simpa using g0) (by simpa using g1)
  d12a := fun g0 => r.d12a (by simpa using g0)
  d12b := fun g0 => r.d12b (by simpa using g0)
  d8a := fun g0 => r.d8a (by simpa using g0)
  d8b := fun g0 g1 => r.d8b (by simpa using g0) (by simpa using g1)
  d8c := fun g0 g1 => r.d8c (by simpa using g0) (by simpa using g1)
  d8d := fun g0 => r.d8d (by simpa using g0)
  sa0 := fun g0 => r.sa0 (by simpa using g0)
  saF := fun g0 => r.saF (by simpa using g0)
  sa1 := fun g0 => r.sa1 (by simpa using g0)
  sa2 := fun g0 => r.sa2 (by simpa using g0)
  sb0 := fun g0 => r.sb0 (by simpa using g0)
  sbF := fun g0 => r.sbF (by simpa using g0)
  sb1 := fun g0 => r.sb1 (by simpa using g0)
  sb2 := fun g0 => r.sb2 (by simpa using g0)
  o1 := fun g0 => by have := r.o1 (by simpa using g0); simp [this]
  o2 := fun g0 => by have := r.o2 (by simpa using g0); simp [this]
  o3 := fun g0 => by have := r.o3 (by simpa using g0); simp [this]
  o4 := fun g0 => by have := r.o4 (by simpa using g0); simp [this] }
theorem op13p_2 {p : ProgL} {s s1 : StL} {ev : Ev} {tr : List Ev} {tk : List Int} {kk : Int} {w : Nat} {budget : Int} {pc : PctL} {rk : List Int} (L : Nat → Bool) (S : St) (r : R13p p s s1 ev tr tk kk w budget pc rk L S) (hL : L 2 = false) : aDo EE Tryz.f104.ntmps ops13 (ops13[2]'(by decide)) S (R13p p s s1 ev tr tk kk w budget pc rk (fun j => L j || j == 2)) := by
 have hat : At [(8, .ptr (.n 8) 0)] [] [] S := ⟨⟨r.u8, trivial⟩, trivial, trivial⟩
 obtain ⟨τ, H, rfl⟩ := hat.form
 conv => whnf
 exact {
  u1 := r.u1
  u2 := r.u2
  u3 := r.u3
  u6 := r.u6
  u7 := r.u7
  u8 := r.u8
  u9 := r.u9
  u10 := r.u10
  u11 := r.u11
  h3 := r.h3
  h6 := r.h6
  x20 := r.x20
  x21 := r.x21
  x22 := r.x22
  x98 := r.x98
  h13 := r.h13
  c0 := fun g0 => r.c0 (by simpa using g0)
  c1 := fun g0 g1 => r.c1 (by simpa using g0) (by simpa using g1)
  c2 := fun _ => rfl
  c3 := fun g0 => r.c3 (by simpa using g0)
  c4 := fun g0 => r.c4 (by simpa using g0)
  c5 := fun g0 => r.c5 (by simpa using g0)
  c6 := fun g0 => r.c6 (by simpa using g0)
  c7 := fun g0 => r.c7 (by simpa using g0)
  c8 := fun g0 => r.c8 (by simpa using g0)
  c9 := fun g0 g1 => r.c9 (by simpa using g0) (by simpa using g1)
  c10 := fun g0 => r.c10 (by simpa using g0)
  c11 := fun g0 => r.c11 (by simpa using g0)
  e9 := fun g0 g1 => r.e9 (by simpa using g0) (by simpa using g1)
  d12a := fun g0 => r.d12a (by simpa using g0)
  d12b := fun g0 => r.d12b (by simpa using g0)
  d8a := fun g0 => r.d8a (by simpa using g0)
  d8b := fun g0 g1 => r.d8b (by simpa using g0) (by simpa using g1)
  d8c := fun g0 g1 => r.d8c (by simpa using g0) (by simpa using g1)
  d8d := fun g0 => r.d8d (by simpa using g0)
  sa0 := fun g0 => r.sa0 (by simpa using g0)
  saF := fun g0 => r.saF (by simpa using g0)
  sa1 := fun g0 => r.sa1 (by simpa using g0)
  sa2 := fun g0 => r.sa2 (by simpa using g0)
  sb0 := fun g0 => r.sb0 (by simpa using g0)
  sbF := fun g0 => r.sbF (by simpa using g0)
  sb1 := fun g0 => r.sb1 (by simpa using g0)
  sb2 := fun g0 => r.sb2 (by simpa using g0)
  o1 := fun g0 => by have := r.o1 (by simpa using g0); simp [this]
  o2 := fun g0 => by have := r.o2 (by simpa using g0); simp [this]
  o3 := fun g0 => by have := r.o3 (by simpa using g0); simp [this]
  o4 := fun g0 => by have := r.o4 (by simpa using g0); simp [this] }
theorem op13p_3 {p : ProgL} {s s1 : StL} {ev : Ev} {tr : List Ev} {tk : List Int} {kk : Int} {w : Nat} {budget : Int} {pc : PctL} {rk : List Int} (L : Nat → Bool) (S : St) (r : R13p p s s1 ev tr tk kk w budget pc rk L S) (hL : L 3 = false) : aDo EE Tryz.f104.ntmps ops13 (ops13[3]'(by decide)) S (R13p p s s1 ev tr tk kk w budget pc rk (fun j => L j || j == 3)) := by
 have hat : At [(3, .ptr (.n 3) 0)] [(.n 3, .vs 31 ((encProg p).map .d))] [] S := ⟨⟨r.u3, trivial⟩, ⟨r.h3, trivial⟩, trivial⟩
 obtain ⟨τ, H, rfl⟩ := hat.form
 conv => whnf
 exact {
  u1 := r.u1
  u2 := r.u2
  u3 := r.u3
  u6 := r.u6
  u7 := r.u7
  u8 := r.u8
  u9 := r.u9
  u10 := r.u10
  u11 := r.u11
  h3 := r.h3
  h6 := r.h6
  x20 := r.x20
  x21 := r.x21
  x22 := r.x22
  x98 := r.x98
  h13 := r.h13
  c0 := fun g0 => r.c0 (by simpa using g0)
  c1 := fun g0 g1 => r.c1 (by simpa using g0) (by simpa using g1)
  c2 := fun g0 => r.c2 (by simpa using g0)
  c3 := fun _ => rfl
  c4 := fun g0 => r.c4 (by simpa using g0)
  c5 := fun g0 => r.c5 (by simpa using g0)
  c6 := fun g0 => r.c6 (by simpa using g0)
  c7 := fun g0 => r.c7 (by simpa using g0)
  c8 := fun g0 => r.c8 (by simpa using g0)
  c9 := fun g0 g1 => r.c9 (by simpa using g0) (by simpa using g1)
  c10 := fun g0 => r.c10 (by simpa using g0)
  c11 := fun g0 => r.c11 (by simpa using g0)
  e9 := fun g0 g1 => r.e9 (by simpa using g0) (by simpa using g1)
  d12a := fun g0 => r.d12a (by simpa using g0)
  d12b := fun g0 => r.d12b (by simpa using g0)
  d8a := fun g0 => r.d8a (by simpa using g0)
  d8b := fun g0 g1 => r.d8b (by simpa using g0) (by simpa using g1)
  d8c := fun g0 g1 => r.d8c (by simpa using g0) (by simpa using g1)
  d8d := fun g0 => r.d8d (by simpa using g0)
  sa0 := fun g0 => r.sa0 (by simpa using g0)
  saF := fun g0 => r.saF (by simpa using g0)
  sa1 := fun g0 => r.sa1 (by simpa using g0)
  sa2 := fun g0 => r.sa2 (by simpa using g0)
  sb0 := fun g0 => r.sb0 (by simpa using g0)
  sbF := fun g0 => r.sbF (by simpa using g0)
  sb1 := fun g0 => r.sb1 (by simpa using g0)
  sb2 := fun g0 => r.sb2 (by simpa using g0)
  o1 := fun g0 => by have := r.o1 (by simpa using g0); simp [this]
  o2 := fun g0 => by have := r.o2 (by simpa using g0); simp [this]
  o3 := fun g0 => by have := r.o3 (by simpa using g0); simp [this]
  o4 := fun g0 => by have := r.o4 (by simpa using g0); simp [this] }
theorem op13p_4 {p : ProgL} {s s1 : StL} {ev : Ev} {tr : List Ev} {tk : List Int} {kk : Int} {w : Nat} {budget : Int} {pc : PctL} {rk : List Int} (L : Nat → Bool) (S : St) (r : R13p p s s1 ev tr tk kk w budget pc rk L S) (hL : L 4 = false) : aDo EE Tryz.f104.ntmps ops13 (ops13[4]'(by decide)) S (R13p p s s1 ev tr tk kk w budget pc rk (fun j => L j || j == 4)) := by
 have hat : At [(10, sl ((zA p s).map yA))] [] [] S := ⟨⟨r.u10, trivial⟩, trivial, trivial⟩
 obtain ⟨τ, H, rfl⟩ := hat.form
 conv => whnf
 exact {
  u1 := r.u1
  u2 := r.u2
  u3 := r.u3
  u6 := r.u6
  u7 := r.u7
  u8 := r.u8
  u9 := r.u9
  u10 := r.u10
  u11 := r.u11
  h3 := r.h3
  h6 := r.h6
  x20 := r.x20
  x21 := r.x21
  x22 := r.x22
  x98 := r.x98
  h13 := r.h13
  c0 := fun g0 => r.c0 (by simpa using g0)
  c1 := fun g0 g1 => r.c1 (by simpa using g0) (by simpa using g1)
  c2 := fun g0 => r.c2 (by simpa using g0)
  c3 := fun g0 => r.c3 (by simpa using g0)
  c4 := fun _ => rfl
  c5 := fun g0 => r.c5 (by simpa using g0)
  c6 := fun g0 => r.c6 (by simpa using g0)
  c7 := fun g0 => r.c7 (by simpa using g0)
  c8 := fun g0 => r.c8 (by simpa using g0)
  c9 := fun g0 g1 => r.c9 (by simpa using g0) (by simpa using g1)
  c10 := fun g0 => r.c10 (by simpa using g0)
  c11 := fun g0 => r.c11 (by simpa using g0)
  e9 := fun g0 g1 => r.e9 (by simpa using g0) (by simpa using g1)
  d12a := fun g0 => r.d12a (by simpa using g0)
  d12b := fun g0 => r.d12b (by simpa using g0)
  d8a := fun g0 => r.d8a (by simpa using g0)
  d8b := fun g0 g1 => r.d8b (by simpa using g0) (by simpa using g1)
  d8c := fun g0 g1 => r.d8c (by simpa using g0) (by simpa using g1)
  d8d := fun g0 => r.d8d (by simpa using g0)
  sa0 := fun g0 => r.sa0 (by simpa using g0)
  saF := fun g0 => r.saF (by simpa using g0)
  sa1 := fun g0 => r.sa1 (by simpa using g0)
  sa2 := fun g0 => r.sa2 (by simpa using g0)
  sb0 := fun g0 => r.sb0 (by simpa using g0)
  sbF := fun g0 => r.sbF (by simpa using g0)
  sb1 := fun g0 => r.sb1 (by simpa using g0)
  sb2 := fun g0 => r.sb2 (by simpa using g0)
  o1 := fun g0 => by have := r.o1 (by simpa using g0); simp [this]
  o2 := fun g0 => by have := r.o2 (by simpa using g0); simp [this]
  o3 := fun g0 => by have := r.o3 (by simpa using g0); simp [this]
  o4 := fun g0 => by have := r.o4 (by simpa using g0); simp [this] }
theorem op13p_5 {p : ProgL} {s s1 : StL} {ev : Ev} {tr : List Ev} {tk : List Int} {kk : Int} {w : Nat} {budget : Int} {pc : PctL} {rk : List Int} (L : Nat → Bool) (S : St) (r : R13p p s s1 ev tr tk kk w budget pc rk L S) (hL : L 5 = false) : aDo EE Tryz.f104.ntmps ops13 (ops13[5]'(by decide)) S (R13p p s s1 ev tr tk kk w budget pc rk (fun j => L j || j == 5)) := by
 have hat : At [(11, i64 kk)] [] [] S := ⟨⟨r.u11, trivial⟩, trivial, trivial⟩
 obtain ⟨τ, H, rfl⟩ := hat.form
 conv => whnf
 exact {
  u1 := r.u1
  u2 := r.u2
  u3 := r.u3
  u6 := r.u6
  u7 := r.u7
  u8 := r.u8
  u9 := r.u9
  u10 := r.u10
  u11 := r.u11
  h3 := r.h3
  h6 := r.h6
  x20 := r.x20
  x21 := r.x21
  x22 := r.x22
  x98 := r.x98
  h13 := r.h13
  c0 := fun g0 => r.c0 (by simpa using g0)
  c1 := fun g0 g1 => r.c1 (by simpa using g0) (by simpa using g1)
  c2 := fun g0 => r.c2 (by simpa using g0)
  c3 := fun g0 => r.c3 (by simpa using g0)
  c4 := fun g0 => r.c4 (by simpa using g0)
  c5 := fun _ => rfl
  c6 := fun g0 => r.c6 (by simpa using g0)
  c7 := fun g0 => r.c7 (by simpa using g0)
  c8 := fun g0 => r.c8 (by simpa using g0)
  c9 := fun g0 g1 => r.c9 (by simpa using g0) (by simpa using g1)
  c10 := fun g0 => r.c10 (by simpa using g0)
  c11 := fun g0 => r.c11 (by simpa using g0)
  e9 := fun g0 g1 => r.e9 (by simpa using g0) (by simpa using g1)
  d12a := fun g0 => r.d12a (by simpa using g0)
  d12b := fun g0 => r.d12b (by simpa using g0)
  d8a := fun g0 => r.d8a (by simpa using g0)
  d8b := fun g0 g1 => r.d8b (by simpa using g0) (by simpa using g1)
  d8c := fun g0 g1 => r.d8c (by simpa using g0) (by simpa using g1)
  d8d := fun g0 => r.d8d (by simpa using g0)
  sa0 := fun g0 => r.sa0 (by simpa using g0)
  saF := fun g0 => r.saF (by simpa using g0)
  sa1 := fun g0 => r.sa1 (by simpa using g0)
  sa2 := fun g0 => r.sa2 (by simpa using g0)
  sb0 := fun g0 => r.sb0 (by simpa using g0)
  sbF := fun g0 => r.sbF (by simpa using g0)
  sb1 := fun g0 => r.sb1 (by simpa using g0)
  sb2 := fun g0 => r.sb2 (by simpa using g0)
  o1 := fun g0 => by have := r.o1 (by simpa using g0); simp [this]
  o2 := fun g0 => by have := r.o2 (by simpa using g0); simp [this]
  o3 := fun g0 => by have := r.o3 (by simpa using g0); simp [this]
  o4 := fun g0 => by have := r.o4 (by simpa using g0); simp [this] }
theorem op13p_6 {p : ProgL} {s s1 : StL} {ev : Ev} {tr : List Ev} {tk : List Int} {kk : Int} {w : Nat} {budget : Int} {pc : PctL} {rk : List Int} (hk0 : 0 ≤ kk) (hen : ((zA p s).map yA)[kk.toNat]? = some (yA w)) (L : Nat → Bool) (S : St) (r : R13p p s s1 ev tr tk kk w budget pc rk L S) (hL : L 6 = false) (k4 : L 4 = true) (k5 : L 5 = true) : aDo EE Tryz.f104.ntmps ops13 (ops13[6]'(by decide)) S (R13p p s s1 ev tr tk kk w budget pc rk (fun j => L j || j == 6)) := by
 have hat : At [(54, sl ((zA p s).map yA)), (55, i64 kk)] [] [] S := ⟨⟨r.c4 k4, r.c5 k5, trivial⟩, trivial, trivial⟩
 obtain ⟨τ, H, rfl⟩ := hat.form
 conv => whnf
 refine ⟨yA w, ⟨hk0, hen, rfl⟩, ?_⟩
 conv => whnf
 exact {
  u1 := r.u1
  u2 := r.u2
  u3 := r.u3
  u6 := r.u6
  u7 := r.u7
  u8 := r.u8
  u9 := r.u9
  u10 := r.u10
  u11 := r.u11
  h3 := r.h3
  h6 := r.h6
  x20 := r.x20
  x21 := r.x21
  x22 := r.x22
  x98 := r.x98
  h13 := r.h13
  c0 := fun g0 => r.c0 (by simpa using g0)
  c1 := fun g0 g1 => r.c1 (by simpa using g0) (by simpa using g1)
  c2 := fun g0 => r.c2 (by simpa using g0)
  c3 := fun g0 => r.c3 (by simpa using g0)
  c4 := fun g0 => r.c4 (by simpa using g0)
  c5 := fun g0 => r.c5 (by simpa using g0)
  c6 := fun _ => rfl
  c7 := fun g0 => r.c7 (by simpa using g0)
  c8 := fun g0 => r.c8 (by simpa using g0)
  c9 := fun g0 g1 => r.c9 (by simpa using g0) (by simpa using g1)
  c10 := fun g0 => r.c10 (by simpa using g0)
  c11 := fun g0 => r.c11 (by simpa using g0)
  e9 := fun g0 g1 => r.e9 (by simpa using g0) (by simpa using g1)
  d12a := fun g0 => r.d12a (by simpa using g0)
  d12b := fun g0 => r.d12b (by simpa using g0)
  d8a := fun g0 => r.d8a (by simpa using g0)
  d8b := fun g0 g1 => r.d8b (by simpa using g0) (by simpa using g1)
  d8c := fun g0 g1 => r.d8c (by simpa using g0) (by simpa using g1)
  d8d := fun g0 => r.d8d (by simpa using g0)
  sa0 := fun g0 => r.sa0 (by simpa using g0)
  saF := fun g0 => r.saF (by simpa using g0)
  sa1 := fun g0 => r.sa1 (by simpa using g0)
  sa2 := fun g0 => r.sa2 (by simpa using g0)
  sb0 := fun g0 => r.sb0 (by simpa using g0)
  sbF := fun g0 => r.sbF (by simpa using g0)
  sb1 := fun g0 => r.sb1 (by simpa using g0)
  sb2 := fun g0 => r.sb2 (by simpa using g0)
  o1 := fun g0 => by have := r.o1 (by simpa using g0); simp [this]
  o2 := fun g0 => by have := r.o2 (by simpa using g0); simp [this]
  o3 := fun g0 => by have := r.o3 (by simpa using g0); simp [this]
  o4 := fun g0 => by have := r.o4 (by simpa using g0); simp [this] }
theorem op13p_7 {p : ProgL} {s s1 : StL} {ev : Ev} {tr : List Ev} {tk : List Int} {kk : Int} {w : Nat} {budget : Int} {pc : PctL} {rk : List Int} (L : Nat → Bool) (S : St) (r : R13p p s s1 ev tr tk kk w budget pc rk L S) (hL : L 7 = false) (k6 : L 6 = true) : aDo EE Tryz.f104.ntmps ops13 (ops13[7]'(by decide)) S (R13p p s s1 ev tr tk kk w budget pc rk (fun j => L j || j == 7)) := by
 have hat : At [(56, .fp (yA w))] [] [] S := ⟨⟨r.c6 k6, trivial⟩, trivial, trivial⟩
 obtain ⟨τ, H, rfl⟩ := hat.form
 conv => whnf
 exact {
  u1 := r.u1
  u2 := r.u2
  u3 := r.u3
  u6 := r.u6
  u7 := r.u7
  u8 := r.u8
  u9 := r.u9
  u10 := r.u10
  u11 := r.u11
  h3 := r.h3
  h6 := r.h6
  x20 := r.x20
  x21 := r.x21
  x22 := r.x22
  x98 := r.x98
  h13 := r.h13
  c0 := fun g0 => r.c0 (by simpa using g0)
  c1 := fun g0 g1 => r.c1 (by simpa using g0) (by simpa using g1)
  c2 := fun g0 => r.c2 (by simpa using g0)
  c3 := fun g0 => r.c3 (by simpa using g0)
  c4 := fun g0 => r.c4 (by simpa using g0)
  c5 := fun g0 => r.c5 (by simpa using g0)
  c6 := fun g0 => r.c6 (by simpa using g0)
  c7 := fun _ => rfl
  c8 := fun g0 => r.c8 (by simpa using g0)
  c9 := fun g0 g1 => r.c9 (by simpa using g0) (by simpa using g1)
  c10 := fun g0 => r.c10 (by simpa using g0)
  c11 := fun g0 => r.c11 (by simpa using g0)
  e9 := fun g0 g1 => r.e9 (by simpa using g0) (by simpa using g1)
  d12a := fun g0 => r.d12a (by simpa using g0)
  d12b := fun g0 => r.d12b (by simpa using g0)
  d8a := fun g0 => r.d8a (by simpa using g0)
  d8b := fun g0 g1 => r.d8b (by simpa using g0) (by simpa using g1)
  d8c := fun g0 g1 => r.d8c (by simpa using g0) (by simpa using g1)
  d8d := fun g0 => r.d8d (by simpa using g0)
  sa0 := fun g0 => r.sa0 (by simpa using g0)
  saF := fun g0 => r.saF (by simpa using g0)
  sa1 := fun g0 => r.sa1 (by simpa using g0)
  sa2 := fun g0 => r.sa2 (by simpa using g0)
  sb0 := fun g0 => r.sb0 (by simpa using g0)
  sbF := fun g0 => r.sbF (by simpa using g0)
  sb1 := fun g0 => r.sb1 (by simpa using g0)
  sb2 := fun g0 => r.sb2 (by simpa using g0)
  o1 := fun g0 => by have := r.o1 (by simpa using g0); simp [this]
  o2 := fun g0 => by have := r.o2 (by simpa using g0); simp [this]
  o3 := fun g0 => by have := r.o3 (by simpa using g0); simp [this]
  o4 := fun g0 => by have := r.o4 (by simpa using g0); simp [this] }
theorem op13p_11 {p : ProgL} {s s1 : StL} {ev : Ev} {tr : List Ev} {tk : List Int} {kk : Int} {w : Nat} {budget : Int} {pc : PctL} {rk : List Int} (L : Nat → Bool) (S : St) (r : R13p p s s1 ev tr tk kk w budget pc rk L S) (hL : L 11 = false) : aDo EE Tryz.f104.ntmps ops13 (ops13[11]'(by decide)) S (R13p p s s1 ev tr tk kk w budget pc rk (fun j => L j || j == 11)) := by
 have hat : At [(8, .ptr (.n 8) 0)] [] [] S := ⟨⟨r.u8, trivial⟩, trivial, trivial⟩
 obtain ⟨τ, H, rfl⟩ := hat.form
 conv => whnf
 exact {
  u1 := r.u1
  u2 := r.u2
  u3 := r.u3
  u6 := r.u6
  u7 := r.u7
  u8 := r.u8
  u9 := r.u9
  u10 := r.u10
  u11 := r.u11
  h3 := r.h3
  h6 := r.h6
  x20 := r.x20
  x21 := r.x21
  x22 := r.x22
  x98 := r.x98
  h13 := r.h13
  c0 := fun g0 => r.c0 (by simpa using g0)
  c1 := fun g0 g1 => r.c1 (by simpa using g0) (by simpa using g1)
  c2 := fun g0 => r.c2 (by simpa using g0)
  c3 := fun g0 => r.c3 (by simpa using g0)
  c4 := fun g0 => r.c4 (by simpa using g0)
  c5 := fun g0 => r.c5 (by simpa using g0)
  c6 := fun g0 => r.c6 (by simpa using g0)
  c7 := fun g0 => r.c7 (by simpa using g0)
  c8 := fun g0 => r.c8 (by simpa using g0)
  c9 := fun g0 g1 => r.c9 (by simpa using g0) (by simpa using g1)
  c10 := fun g0 => r.c10 (by simpa using g0)
  c11 := fun _ => rfl
  e9 := fun g0 g1 => r.e9 (by simpa using g0) (by simpa using g1)
  d12a := fun g0 => r.d12a (by simpa using g0)
  d12b := fun g0 => r.d12b (by simpa using g0)
  d8a := fun g0 => r.d8a (by simpa using g0)
  d8b := fun g0 g1 => r.d8b (by simpa using g0) (by simpa using g1)
  d8c := fun g0 g1 => r.d8c (by simpa using g0) (by simpa using g1)
  d8d := fun g0 => r.d8d (by simpa using g0)
  sa0 := fun g0 => r.sa0 (by simpa using g0)
  saF := fun g0 => r.saF (by simpa using g0)
  sa1 := fun g0 => r.sa1 (by simpa using g0)
  sa2 := fun g0 => r.sa2 (by simpa using g0)
  sb0 := fun g0 => r.sb0 (by simpa using g0)
  sbF := fun g0 => r.sbF (by simpa using g0)
  sb1 := fun g0 => r.sb1 (by simpa using g0)
  sb2 := fun g0 => r.sb2 (by simpa using g0)
  o1 := fun g0 => by have := r.o1 (by simpa using g0); simp [this]
  o2 := fun g0 => by have := r.o2 (by simpa using g0); simp [this]
  o3 := fun g0 => by have := r.o3 (by simpa using g0); simp [this]
  o4 := fun g0 => by have := r.o4 (by simpa using g0); simp [this] }
theorem op13p_1 {p : ProgL} {s s1 : StL} {ev : Ev} {tr : List Ev} {tk : List Int} {kk : Int} {w : Nat} {budget : Int} {pc : PctL} {rk : List Int} (L : Nat → Bool) (S : St) (r : R13p p s s1 ev tr tk kk w budget pc rk L S) (hL : L 1 = false) (k0 : L 0 = true) : aDo EE Tryz.f104.ntmps ops13 (ops13[1]'(by decide)) S (R13p p s s1 ev tr tk kk w budget pc rk (fun j => L j || j == 1)) := by
 have n10 : L 10 = false := by
  cases h : L 10 with
  |false => rfl
  |true => exact absurd (r.o3 h) (by rw [hL]; decide)
 obtain ⟨st, hst⟩ : ∃ st, S.H (.n 8) = some (.vs 78 ([i64 0, .ref (.n 12) 0 tr.length, .ref (.n 13) 0 (tk.length + 1)] ++ stRef st)) := by
  cases h8 : L 8 with
  |false => exact ⟨_, r.d8a h8⟩
  |true => exact ⟨_, r.d8b h8 n10⟩
 have hat : At [(50, .ptr (.n 8) (0 + 1))] [(.n 8, .vs 78 ([i64 0, .ref (.n 12) 0 tr.length, .ref (.n 13) 0 (tk.length + 1)] ++ stRef st))] [] S := ⟨⟨r.c0 k0, trivial⟩, ⟨hst, trivial⟩, trivial⟩
 obtain ⟨τ, H, rfl⟩ := hat.form
 conv => whnf
 exact {
  u1 := r.u1
  u2 := r.u2
  u3 := r.u3
  u6 := r.u6
  u7 := r.u7
  u8 := r.u8
  u9 := r.u9
  u10 := r.u10
  u11 := r.u11
  h3 := r.h3
  h6 := r.h6
  x20 := r.x20
  x21 := r.x21
  x22 := r.x22
  x98 := r.x98
  h13 := r.h13
  c0 := fun g0 => r.c0 (by simpa using g0)
  c1 := fun _ _ => rfl
  c2 := fun g0 => r.c2 (by simpa using g0)
  c3 := fun g0 => r.c3 (by simpa using g0)
  c4 := fun g0 => r.c4 (by simpa using g0)
  c5 := fun g0 => r.c5 (by simpa using g0)
  c6 := fun g0 => r.c6 (by simpa using g0)
  c7 := fun g0 => r.c7 (by simpa using g0)
  c8 := fun g0 => r.c8 (by simpa using g0)
  c9 := fun g0 g1 => r.c9 (by simpa using g0) (by simpa using g1)
  c10 := fun g0 => r.c10 (by simpa using g0)
  c11 := fun g0 => r.c11 (by simpa using g0)
  e9 := fun g0 g1 => r.e9 (by simpa using g0) (by simpa using g1)
  d12a := fun g0 => r.d12a (by simpa using g0)
  d12b := fun g0 => r.d12b (by simpa using g0)
  d8a := fun g0 => r.d8a (by simpa using g0)
  d8b := fun g0 g1 => r.d8b (by simpa using g0) (by simpa using g1)
  d8c := fun g0 g1 => r.d8c (by simpa using g0) (by simpa using g1)
  d8d := fun g0 => r.d8d (by simpa using g0)
  sa0 := fun g0 => r.sa0 (by simpa using g0)
  saF := fun g0 => r.saF (by simpa using g0)
  sa1 := fun g0 => r.sa1 (by simpa using g0)
  sa2 := fun g0 => r.sa2 (by simpa using g0)
  sb0 := fun g0 => r.sb0 (by simpa using g0)
  sbF := fun g0 => r.sbF (by simpa using g0)
  sb1 := fun g0 => r.sb1 (by simpa using g0)
  sb2 := fun g0 => r.sb2 (by simpa using g0)
  o1 := fun g0 => by have := r.o1 (by simpa using g0); simp [this]
  o2 := fun g0 => by have := r.o2 (by simpa using g0); simp [this]
  o3 := fun g0 => by have := r.o3 (by simpa using g0); simp [this]
  o4 := fun g0 => by have := r.o4 (by simpa using g0); simp [this] }
theorem op13p_9 {p : ProgL} {s s1 : StL} {ev : Ev} {tr : List Ev} {tk : List Int} {kk : Int} {w : Nat} {budget : Int} {pc : PctL} {rk : List Int} (L : Nat → Bool) (S : St) (r : R13p p s s1 ev tr tk kk w budget pc rk L S) (hL : L 9 = false) (k8 : L 8 = true) : aDo EE Tryz.f104.ntmps ops13 (ops13[9]'(by decide)) S (R13p p s s1 ev tr tk kk w budget pc rk (fun j => L j || j == 9)) := by
 have hat : At [(58, agg (encEv ev))] [] [] S := ⟨⟨r.c8 k8, trivial⟩, trivial, trivial⟩
 obtain ⟨τ, H, rfl⟩ := hat.form
 conv => whnf
 exact {
  u1 := (congrArg (scrP (isK (.n 59))) (r.u1)).trans rfl
  u2 := (congrArg (scrP (isK (.n 59))) (r.u2)).trans rfl
  u3 := (congrArg (scrP (isK (.n 59))) (r.u3)).trans rfl
  u6 := (congrArg (scrP (isK (.n 59))) (r.u6)).trans rfl
  u7 := (congrArg (scrP (isK (.n 59))) (r.u7)).trans rfl
  u8 := (congrArg (scrP (isK (.n 59))) (r.u8)).trans rfl
  u9 := (congrArg (scrP (isK (.n 59))) (r.u9)).trans rfl
  u10 := (congrArg (scrP (isK (.n 59))) (r.u10)).trans rfl
  u11 := (congrArg (scrP (isK (.n 59))) (r.u11)).trans rfl
  h3 := (congrArg (Option.map (scrPO (isK (.n 59)))) (r.h3)).trans rfl
  h6 := (congrArg (Option.map (scrPO (isK (.n 59)))) (r.h6)).trans rfl
  x20 := (congrArg (Option.map (scrPO (isK (.n 59)))) (r.x20)).trans rfl
  x21 := (congrArg (Option.map (scrPO (isK (.n 59)))) (r.x21)).trans rfl
  x22 := (congrArg (Option.map (scrPO (isK (.n 59)))) (r.x22)).trans rfl
  x98 := (congrArg (Option.map (scrPO (isK (.n 59)))) (r.x98)).trans rfl
  h13 := (congrArg (Option.map (scrPO (isK (.n 59)))) (r.h13)).trans rfl
  c0 := fun g0 => (congrArg (scrP (isK (.n 59))) (r.c0 (by simpa using g0))).trans rfl
  c1 := fun g0 g1 => (congrArg (scrP (isK (.n 59))) (r.c1 (by simpa using g0) (by simpa using g1))).trans rfl
  c2 := fun g0 => (congrArg (scrP (isK (.n 59))) (r.c2 (by simpa using g0))).trans rfl
  c3 := fun g0 => (congrArg (scrP (isK (.n 59))) (r.c3 (by simpa using g0))).trans rfl
  c4 := fun g0 => (congrArg (scrP (isK (.n 59))) (r.c4 (by simpa using g0))).trans rfl
  c5 := fun g0 => (congrArg (scrP (isK (.n 59))) (r.c5 (by simpa using g0))).trans rfl
  c6 := fun g0 => (congrArg (scrP (isK (.n 59))) (r.c6 (by simpa using g0))).trans rfl
  c7 := fun g0 => (congrArg (scrP (isK (.n 59))) (r.c7 (by simpa using g0))).trans rfl
  c8 := fun g0 => (congrArg (scrP (isK (.n 59))) (r.c8 (by simpa using g0))).trans rfl
  c9 := fun _ _ => rfl
  c10 := fun g0 => (congrArg (scrP (isK (.n 59))) (r.c10 (by simpa using g0))).trans rfl
  c11 := fun g0 => (congrArg (scrP (isK (.n 59))) (r.c11 (by simpa using g0))).trans rfl
  e9 := fun _ _ => rfl
  d12a := fun g0 => (congrArg (Option.map (scrPO (isK (.n 59)))) (r.d12a (by simpa using g0))).trans rfl
  d12b := fun g0 => (congrArg (Option.map (scrPO (isK (.n 59)))) (r.d12b (by simpa using g0))).trans rfl
  d8a := fun g0 => (congrArg (Option.map (scrPO (isK (.n 59)))) (r.d8a (by simpa using g0))).trans rfl
  d8b := fun g0 g1 => (congrArg (Option.map (scrPO (isK (.n 59)))) (r.d8b (by simpa using g0) (by simpa using g1))).trans rfl
  d8c := fun g0 g1 => (congrArg (Option.map (scrPO (isK (.n 59)))) (r.d8c (by simpa using g0) (by simpa using g1))).trans rfl
  d8d := fun g0 => (congrArg (Option.map (scrPO (isK (.n 59)))) (r.d8d (by simpa using g0))).trans rfl
  sa0 := fun g0 => (congrArg (Option.map (scrPO (isK (.n 59)))) (r.sa0 (by simpa using g0))).trans (congrArg (fun x => some (Ob.rs 123 6 x)) (yJ fun _ _ => rfl))
  saF := fun g0 => fun j => (congrArg (Option.map (scrPO (isK (.n 59)))) (r.saF (by simpa using g0) j)).trans (yM _ _ _)
  sa1 := fun g0 => (congrArg (Option.map (scrPO (isK (.n 59)))) (r.sa1 (by simpa using g0))).trans rfl
  sa2 := fun g0 => (congrArg (Option.map (scrPO (isK (.n 59)))) (r.sa2 (by simpa using g0))).trans rfl
  sb0 := fun g0 => (congrArg (Option.map (scrPO (isK (.n 59)))) (r.sb0 (by simpa using g0))).trans (congrArg (fun x => some (Ob.rs 123 6 x)) (yJ fun _ _ => rfl))
  sbF := fun g0 => fun j => (congrArg (Option.map (scrPO (isK (.n 59)))) (r.sbF (by simpa using g0) j)).trans (yM _ _ _)
  sb1 := fun g0 => (congrArg (Option.map (scrPO (isK (.n 59)))) (r.sb1 (by simpa using g0))).trans rfl
  sb2 := fun g0 => (congrArg (Option.map (scrPO (isK (.n 59)))) (r.sb2 (by simpa using g0))).trans rfl
  o1 := fun g0 => by have := r.o1 (by simpa using g0); simp [this]
  o2 := fun g0 => by have := r.o2 (by simpa using g0); simp [this]
  o3 := fun g0 => by have := r.o3 (by simpa using g0); simp [this]
  o4 := fun g0 => by have := r.o4 (by simpa using g0); simp [this] }
theorem op13p_10 {p : ProgL} {s s1 : StL} {ev : Ev} {tr : List Ev} {tk : List Int} {kk : Int} {w : Nat} {budget : Int} {pc : PctL} {rk : List Int} (htr : tr.length ≤ 1048576) (L : Nat → Bool) (S : St) (r : R13p p s s1 ev tr tk kk w budget pc rk L S) (hL : L 10 = false) (k1 : L 1 = true) (k8 : L 8 = true) (k9 : L 9 = true) : aDo EE Tryz.f104.ntmps ops13 (ops13[10]'(by decide)) S (R13p p s s1 ev tr tk kk w budget pc rk (fun j => L j || j == 10)) := by
 have hat : At [(51, .ref (.n 12) 0 tr.length), (59, .ref (.n 59) 0 1)] [(.n 12, .ds 120 5 (tr.map encEv)), (.n 59, .ds 120 5 [encEv ev])] [] S := ⟨⟨r.c1 k1 hL, r.c9 k9 hL, trivial⟩, ⟨r.d12a hL, r.e9 k9 hL, trivial⟩, trivial⟩
 obtain ⟨τ, H, rfl⟩ := hat.form
 conv => whnf
 refine ⟨⟨rfl, by show (tr.length + 1) * 40 ≤ _; omega, by show tr.length + 1 ≤ _; omega⟩, ?_⟩
 conv => whnf
 exact {
  u1 := (congrArg (scrP (isK (.n 12))) (r.u1)).trans rfl
  u2 := (congrArg (scrP (isK (.n 12))) (r.u2)).trans rfl
  u3 := (congrArg (scrP (isK (.n 12))) (r.u3)).trans rfl
  u6 := (congrArg (scrP (isK (.n 12))) (r.u6)).trans rfl
  u7 := (congrArg (scrP (isK (.n 12))) (r.u7)).trans rfl
  u8 := (congrArg (scrP (isK (.n 12))) (r.u8)).trans rfl
  u9 := (congrArg (scrP (isK (.n 12))) (r.u9)).trans rfl
  u10 := (congrArg (scrP (isK (.n 12))) (r.u10)).trans rfl
  u11 := (congrArg (scrP (isK (.n 12))) (r.u11)).trans rfl
  h3 := (congrArg (Option.map (scrPO (isK (.n 12)))) (r.h3)).trans rfl
  h6 := (congrArg (Option.map (scrPO (isK (.n 12)))) (r.h6)).trans rfl
  x20 := (congrArg (Option.map (scrPO (isK (.n 12)))) (r.x20)).trans rfl
  x21 := (congrArg (Option.map (scrPO (isK (.n 12)))) (r.x21)).trans rfl
  x22 := (congrArg (Option.map (scrPO (isK (.n 12)))) (r.x22)).trans rfl
  x98 := (congrArg (Option.map (scrPO (isK (.n 12)))) (r.x98)).trans rfl
  h13 := (congrArg (Option.map (scrPO (isK (.n 12)))) (r.h13)).trans rfl
  c0 := fun g0 => (congrArg (scrP (isK (.n 12))) (r.c0 (by simpa using g0))).trans rfl
  c1 := fun g0 g1 => absurd g1 (by simp)
  c2 := fun g0 => (congrArg (scrP (isK (.n 12))) (r.c2 (by simpa using g0))).trans rfl
  c3 := fun g0 => (congrArg (scrP (isK (.n 12))) (r.c3 (by simpa using g0))).trans rfl
  c4 := fun g0 => (congrArg (scrP (isK (.n 12))) (r.c4 (by simpa using g0))).trans rfl
  c5 := fun g0 => (congrArg (scrP (isK (.n 12))) (r.c5 (by simpa using g0))).trans rfl
  c6 := fun g0 => (congrArg (scrP (isK (.n 12))) (r.c6 (by simpa using g0))).trans rfl
  c7 := fun g0 => (congrArg (scrP (isK (.n 12))) (r.c7 (by simpa using g0))).trans rfl
  c8 := fun g0 => (congrArg (scrP (isK (.n 12))) (r.c8 (by simpa using g0))).trans rfl
  c9 := fun g0 g1 => absurd g1 (by simp)
  c10 := fun _ => rfl
  c11 := fun g0 => (congrArg (scrP (isK (.n 12))) (r.c11 (by simpa using g0))).trans rfl
  e9 := fun g0 g1 => absurd g1 (by simp)
  d12a := fun g0 => absurd g0 (by simp)
  d12b := fun _ => by
   show some (Ob.ds 120 5 ((tr.map encEv).take tr.length ++ [encEv ev])) = _
   rw [List.take_of_length_le (by simp)]
   simp
  d8a := fun g0 => absurd g0 (by simp [k8])
  d8b := fun g0 g1 => absurd g1 (by simp)
  d8c := fun _ _ => (congrArg (Option.map (scrPO (isK (.n 12)))) (r.d8b k8 hL)).trans rfl
  d8d := fun g0 => absurd (r.o2 (by simpa using g0)) (by rw [hL]; decide)
  sa0 := fun g0 => (congrArg (Option.map (scrPO (isK (.n 12)))) (r.sa0 (by simpa using g0))).trans (congrArg (fun x => some (Ob.rs 123 6 x)) (yJ fun _ _ => rfl))
  saF := fun g0 => fun j => (congrArg (Option.map (scrPO (isK (.n 12)))) (r.saF (by simpa using g0) j)).trans (yM _ _ _)
  sa1 := fun g0 => (congrArg (Option.map (scrPO (isK (.n 12)))) (r.sa1 (by simpa using g0))).trans rfl
  sa2 := fun g0 => (congrArg (Option.map (scrPO (isK (.n 12)))) (r.sa2 (by simpa using g0))).trans rfl
  sb0 := fun g0 => (congrArg (Option.map (scrPO (isK (.n 12)))) (r.sb0 (by simpa using g0))).trans (congrArg (fun x => some (Ob.rs 123 6 x)) (yJ fun _ _ => rfl))
  sbF := fun g0 => fun j => (congrArg (Option.map (scrPO (isK (.n 12)))) (r.sbF (by simpa using g0) j)).trans (yM _ _ _)
  sb1 := fun g0 => (congrArg (Option.map (scrPO (isK (.n 12)))) (r.sb1 (by simpa using g0))).trans rfl
  sb2 := fun g0 => (congrArg (Option.map (scrPO (isK (.n 12)))) (r.sb2 (by simpa using g0))).trans rfl
  o1 := fun _ => by simp [k8]
  o2 := fun g0 => by have := r.o2 (by simpa using g0); simp [this]
  o3 := fun _ => by simp [k1]
  o4 := fun _ => by simp [k9] }
theorem op13p_12 {p : ProgL} {s s1 : StL} {ev : Ev} {tr : List Ev} {tk : List Int} {kk : Int} {w : Nat} {budget : Int} {pc : PctL} {rk : List Int} (L : Nat → Bool) (S : St) (r : R13p p s s1 ev tr tk kk w budget pc rk L S) (hL : L 12 = false) (k10 : L 10 = true) (k11 : L 11 = true) : aDo EE Tryz.f104.ntmps ops13 (ops13[12]'(by decide)) S (R13p p s s1 ev tr tk kk w budget pc rk (fun j => L j || j == 12)) := by
 have hat : At [(61, .ptr (.n 8) (0 + 1)), (60, .ref (.n 12) 0 (tr.length + 1))] [(.n 8, .vs 78 ([i64 0, .junk, .ref (.n 13) 0 (tk.length + 1)] ++ stRef s1))] [] S := ⟨⟨r.c11 k11, r.c10 k10, trivial⟩, ⟨r.d8c k10 hL, trivial⟩, trivial⟩
 obtain ⟨τ, H, rfl⟩ := hat.form
 conv => whnf
 exact {
  u1 := r.u1
  u2 := r.u2
  u3 := r.u3
  u6 := r.u6
  u7 := r.u7
  u8 := r.u8
  u9 := r.u9
  u10 := r.u10
  u11 := r.u11
  h3 := r.h3
  h6 := r.h6
  x20 := r.x20
  x21 := r.x21
  x22 := r.x22
  x98 := r.x98
  h13 := r.h13
  c0 := fun g0 => r.c0 (by simpa using g0)
  c1 := fun g0 g1 => r.c1 (by simpa using g0) (by simpa using g1)
  c2 := fun g0 => r.c2 (by simpa using g0)
  c3 := fun g0 => r.c3 (by simpa using g0)
  c4 := fun g0 => r.c4 (by simpa using g0)
  c5 := fun g0 => r.c5 (by simpa using g0)
  c6 := fun g0 => r.c6 (by simpa using g0)
  c7 := fun g0 => r.c7 (by simpa using g0)
  c8 := fun g0 => r.c8 (by simpa using g0)
  c9 := fun g0 g1 => r.c9 (by simpa using g0) (by simpa using g1)
  c10 := fun g0 => r.c10 (by simpa using g0)
  c11 := fun g0 => r.c11 (by simpa using g0)
  e9 := fun g0 g1 => r.e9 (by simpa using g0) (by simpa using g1)
  d12a := fun g0 => r.d12a (by simpa using g0)
  d12b := fun g0 => r.d12b (by simpa using g0)
  d8a := fun g0 => absurd g0 (by simp [r.o1 k10])
  d8b := fun _ g1 => absurd g1 (by simp [k10])
  d8c := fun g0 g1 => absurd g1 (by simp)
  d8d := fun _ => rfl
  sa0 := fun g0 => r.sa0 (by simpa using g0)
  saF := fun g0 => r.saF (by simpa using g0)
  sa1 := fun g0 => r.sa1 (by simpa using g0)
  sa2 := fun g0 => r.sa2 (by simpa using g0)
  sb0 := fun g0 => r.sb0 (by simpa using g0)
  sbF := fun g0 => r.sbF (by simpa using g0)
  sb1 := fun g0 => r.sb1 (by simpa using g0)
  sb2 := fun g0 => r.sb2 (by simpa using g0)
  o1 := fun g0 => by have := r.o1 (by simpa using g0); simp [this]
  o2 := fun _ => by simp [k10]
  o3 := fun g0 => by have := r.o3 (by simpa using g0); simp [this]
  o4 := fun g0 => by have := r.o4 (by simpa using g0); simp [this] }
theorem op13p_8 {p : ProgL} {s s1 : StL} {ev : Ev} {tr : List Ev} {tk : List Int} {kk : Int} {w : Nat} {budget : Int} {pc : PctL} {rk : List Int} (hst : ∀ (v0 v1 : Value) (H0 : Key → Option Ob), AtC 78 [i64 0, .lit v0, .lit v1] s H0 → IOCall EE 115 [.ptr (.l 0) 3, agg (encProg p), i64 w] H0 (fun r H1 => r = agg (encEv ev) ∧ H1 = stHC 78 [i64 0, .lit v0, .lit v1] s1)) (L : Nat → Bool) (S : St) (r : R13p p s s1 ev tr tk kk w budget pc rk L S) (hL : L 8 = false) (k2 : L 2 = true) (k3 : L 3 = true) (k7 : L 7 = true) : aDo EE Tryz.f104.ntmps ops13 (ops13[8]'(by decide)) S (R13p p s s1 ev tr tk kk w budget pc rk (fun j => L j || j == 8)) := by
 have n10 : L 10 = false := by
  cases h : L 10 with
  |false => rfl
  |true => exact absurd (r.o1 h) (by rw [hL]; decide)
 have hat : At [(52, .ptr (.n 8) (0 + 3)), (53, agg (encProg p)), (57, i64 w)] [(.n 8, .vs 78 ([i64 0, .ref (.n 12) 0 tr.length, .ref (.n 13) 0 (tk.length + 1)] ++ stRef s)), (.n 900, .rs 123 6 (thRows 900 s.ths)), (.n 901, .ds 105 1 (s.cells.map encF)), (.n 902, .ds 3 1 (s.owner.map encInt))] [(900, zQ s.ths)] S := ⟨⟨r.c2 k2, r.c3 k3, r.c7 k7, trivial⟩, ⟨r.d8a hL, r.sa0 hL, r.sa1 hL, r.sa2 hL, trivial⟩, ⟨r.saF hL, trivial⟩⟩
 obtain ⟨τ, H, rfl⟩ := hat.form
 conv => whnf
 refine .inr (.inr (.inr ⟨_, 115, [], 8, 0, xL, 78, [i64 0, .ref (.n 12) 0 tr.length, .ref (.n 13) 0 (tk.length + 1)] ++ stRef s, [.ref (.n 12) 0 tr.length, .ref (.n 13) 0 (tk.length + 1)], fun lam => [i64 0, .lit (lam 0), .lit (lam 1)] ++ stRef s, fun lam r H1 => r = agg (encEv ev) ∧ H1 = stHC 78 [i64 0, .lit (lam 0), .lit (lam 1)] s1, Weak.refl, rfl, ⟨rfl, rfl, rfl⟩, ?_, fun lam => litC13 _ _ _ _ rfl lam, fun lam => hst (lam 0) (lam 1) _ ⟨rfl, rfl, ?_, fun j => ?_, rfl, rfl⟩, ?_⟩))
 ·intro c hc
  simp only [List.mem_cons, List.not_mem_nil, or_false] at hc
  rcases hc with rfl | rfl
  ·exact ⟨rfl, by simp⟩
  ·exact ⟨rfl, by simp⟩
 ·show some (Ob.rs 123 6 (((thRows 900 s.ths).map (renL (swp (.n 8) (.l 0)))).map (scrPL fun o => !xL o))) = _
  rw [qU]
  exact congrArg (fun x => some (Ob.rs 123 6 x)) (yJ fun _ _ => rfl)
 ·show ((zQ s.ths j).map (renO _)).map (scrPO _) = _
  rw [thFam_ren, yM]
 rintro lam rr H1 ⟨rfl, rfl⟩
 refine ⟨stHC_none, ?_, [i64 0, .lit (lam 0), .lit (lam 1)] ++ stRef s1, [i64 0, .ref (.n 12) 0 tr.length, .ref (.n 13) 0 (tk.length + 1)] ++ stRef s1, rfl, litB13 _ _ _ _, ?_⟩
 ·intro n hn
  have : n = 0 := by simpa [xL] using hn
  subst this
  exact ⟨78, _, _, rfl, rfl⟩
 exact {
  u1 := (congrArg (fun x => ren (swp (.n 8) (.l 0)) (scrP (xG xL) (ren (swp (.n 8) (.l 0)) x))) (r.u1)).trans rfl
  u2 := (congrArg (fun x => ren (swp (.n 8) (.l 0)) (scrP (xG xL) (ren (swp (.n 8) (.l 0)) x))) (r.u2)).trans rfl
  u3 := (congrArg (fun x => ren (swp (.n 8) (.l 0)) (scrP (xG xL) (ren (swp (.n 8) (.l 0)) x))) (r.u3)).trans rfl
  u6 := (congrArg (fun x => ren (swp (.n 8) (.l 0)) (scrP (xG xL) (ren (swp (.n 8) (.l 0)) x))) (r.u6)).trans rfl
  u7 := (congrArg (fun x => ren (swp (.n 8) (.l 0)) (scrP (xG xL) (ren (swp (.n 8) (.l 0)) x))) (r.u7)).trans rfl
  u8 := (congrArg (fun x => ren (swp (.n 8) (.l 0)) (scrP (xG xL) (ren (swp (.n 8) (.l 0)) x))) (r.u8)).trans rfl
  u9 := (congrArg (fun x => ren (swp (.n 8) (.l 0)) (scrP (xG xL) (ren (swp (.n 8) (.l 0)) x))) (r.u9)).trans rfl
  u10 := (congrArg (fun x => ren (swp (.n 8) (.l 0)) (scrP (xG xL) (ren (swp (.n 8) (.l 0)) x))) (r.u10)).trans rfl
  u11 := (congrArg (fun x => ren (swp (.n 8) (.l 0)) (scrP (xG xL) (ren (swp (.n 8) (.l 0)) x))) (r.u11)).trans rfl
  h3 := (congrArg (fun x => (((x.map (renO (swp (.n 8) (.l 0)))).map (scrPO (xG xL))).map (renO (swp (.n 8) (.l 0))))) (r.h3)).trans rfl
  h6 := (congrArg (fun x => (((x.map (renO (swp (.n 8) (.l 0)))).map (scrPO (xG xL))).map (renO (swp (.n 8) (.l 0))))) (r.h6)).trans rfl
  x20 := (congrArg (fun x => (((x.map (renO (swp (.n 8) (.l 0)))).map (scrPO (xG xL))).map (renO (swp (.n 8) (.l 0))))) (r.x20)).trans rfl
  x21 := (congrArg (fun x => (((x.map (renO (swp (.n 8) (.l 0)))).map (scrPO (xG xL))).map (renO (swp (.n 8) (.l 0))))) (r.x21)).trans rfl
  x22 := (congrArg (fun x => (((x.map (renO (swp (.n 8) (.l 0)))).map (scrPO (xG xL))).map (renO (swp (.n 8) (.l 0))))) (r.x22)).trans rfl
  x98 := (congrArg (fun x => (((x.map (renO (swp (.n 8) (.l 0)))).map (scrPO (xG xL))).map (renO (swp (.n 8) (.l 0))))) (r.x98)).trans rfl
  h13 := (congrArg (fun x => (((x.map (renO (swp (.n 8) (.l 0)))).map (scrPO (xG xL))).map (renO (swp (.n 8) (.l 0))))) (r.h13)).trans rfl
  c0 := fun g0 => (congrArg (fun x => ren (swp (.n 8) (.l 0)) (scrP (xG xL) (ren (swp (.n 8) (.l 0)) x))) (r.c0 (by simpa using g0))).trans rfl
  c1 := fun g0 g1 => (congrArg (fun x => ren (swp (.n 8) (.l 0)) (scrP (xG xL) (ren (swp (.n 8) (.l 0)) x))) (r.c1 (by simpa using g0) (by simpa using g1))).trans rfl
  c2 := fun g0 => (congrArg (fun x => ren (swp (.n 8) (.l 0)) (scrP (xG xL) (ren (swp (.n 8) (.l 0)) x))) (r.c2 (by simpa using g0))).trans rfl
  c3 := fun g0 => (congrArg (fun x => ren (swp (.n 8) (.l 0)) (scrP (xG xL) (ren (swp (.n 8) (.l 0)) x))) (r.c3 (by simpa using g0))).trans rfl
  c4 := fun g0 => (congrArg (fun x => ren (swp (.n 8) (.l 0)) (scrP (xG xL) (ren (swp (.n 8) (.l 0)) x))) (r.c4 (by simpa using g0))).trans rfl
  c5 := fun g0 => (congrArg (fun x => ren (swp (.n 8) (.l 0)) (scrP (xG xL) (ren (swp (.n 8) (.l 0)) x))) (r.c5 (by simpa using g0))).trans rfl
  c6 := fun g0 => (congrArg (fun x => ren (swp (.n 8) (.l 0)) (scrP (xG xL) (ren (swp (.n 8) (.l 0)) x))) (r.c6 (by simpa using g0))).trans rfl
  c7 := fun g0 => (congrArg (fun x => ren (swp (.n 8) (.l 0)) (scrP (xG xL) (ren (swp (.n 8) (.l 0)) x))) (r.c7 (by simpa using g0))).trans rfl
  c8 := fun _ => rP _ _
  c9 := fun g0 g1 => (congrArg (fun x => ren (swp (.n 8) (.l 0)) (scrP (xG xL) (ren (swp (.n 8) (.l 0)) x))) (r.c9 (by simpa using g0) (by simpa using g1))).trans rfl
  c10 := fun g0 => (congrArg (fun x => ren (swp (.n 8) (.l 0)) (scrP (xG xL) (ren (swp (.n 8) (.l 0)) x))) (r.c10 (by simpa using g0))).trans rfl
  c11 := fun g0 => (congrArg (fun x => ren (swp (.n 8) (.l 0)) (scrP (xG xL) (ren (swp (.n 8) (.l 0)) x))) (r.c11 (by simpa using g0))).trans rfl
  e9 := fun g0 g1 => (congrArg (fun x => (((x.map (renO (swp (.n 8) (.l 0)))).map (scrPO (xG xL))).map (renO (swp (.n 8) (.l 0))))) (r.e9 (by simpa using g0) (by simpa using g1))).trans rfl
  d12a := fun g0 => (congrArg (fun x => (((x.map (renO (swp (.n 8) (.l 0)))).map (scrPO (xG xL))).map (renO (swp (.n 8) (.l 0))))) (r.d12a (by simpa using g0))).trans rfl
  d12b := fun g0 => (congrArg (fun x => (((x.map (renO (swp (.n 8) (.l 0)))).map (scrPO (xG xL))).map (renO (swp (.n 8) (.l 0))))) (r.d12b (by simpa using g0))).trans rfl
  d8a := fun g0 => absurd g0 (by simp)
  d8b := fun _ _ => rfl
  d8c := fun g0 => absurd g0 (by simp [n10])
  d8d := fun g0 => absurd (r.o2 (by simpa using g0)) (by rw [n10]; decide)
  sa0 := fun g0 => absurd g0 (by simp)
  saF := fun g0 => absurd g0 (by simp)
  sa1 := fun g0 => absurd g0 (by simp)
  sa2 := fun g0 => absurd g0 (by simp)
  sb0 := fun _ => congrArg (fun x => some (Ob.rs 123 6 x)) (qU 8 0 900 s1.ths)
  sbF := fun _ j => thFam_ren _ _ _
  sb1 := fun _ => rfl
  sb2 := fun _ => rfl
  o1 := fun _ => by simp
  o2 := fun g0 => by have := r.o2 (by simpa using g0); simp [this]
  o3 := fun g0 => by have := r.o3 (by simpa using g0); simp [this]
  o4 := fun g0 => by have := r.o4 (by simpa using g0); simp [this] }
end Ai
end
section
set_option maxRecDepth 100000
namespace Ai
open Go Go.Proofs Cyc
theorem draw13p {p : ProgL} {s s1 : StL} {ev : Ev} {tr : List Ev} {tk : List Int} {kk : Int} {w : Nat} {budget : Int} {pc : PctL} {rk : List Int} (hk0 : 0 ≤ kk) (hen : ((zA p s).map yA)[kk.toNat]? = some (yA w)) (htr : tr.length ≤ 1048576)
  (hst : ∀ (v0 v1 : Value) (H0 : Key → Option Ob), AtC 78 [i64 0, .lit v0, .lit v1] s H0 → IOCall EE 115 [.ptr (.l 0) 3, agg (encProg p), i64 w] H0 (fun r H1 => r = agg (encEv ev) ∧ H1 = stHC 78 [i64 0, .lit v0, .lit v1] s1))
  (Q : AX → St → Prop) (S : St) (h : R13p p s s1 ev tr tk kk w budget pc rk (fun _ => false) S) (hQ : ∀ L S', (∀ i, i < 13 → L i = true) → R13p p s s1 ev tr tk kk w budget pc rk L S' → Q .normal S') : ADrawI EE Tryz.f104.ntmps ops13 Q S := by
 refine ⟨R13p p s s1 ev tr tk kk w budget pc rk, h, ?_, fun L S' hL hS => hQ L S' hL hS, by kernel_rfl, trivial⟩
 intro i o ho L S hL hd hI
 match i, ho, hL with
 | 0, ho, hL =>
  obtain rfl : ops13[0]'(by decide) = o := Option.some.inj (show some (ops13[0]'(by decide)) = some o from ho)
  exact op13p_0 L S hI hL
 | 1, ho, hL =>
  obtain rfl : ops13[1]'(by decide) = o := Option.some.inj (show some (ops13[1]'(by decide)) = some o from ho)
  have k0 : L 0 = true := hd _ (Array.getElem_mem (i := 0) (by decide)) rfl
  exact op13p_1 L S hI hL k0
 | 2, ho, hL =>
  obtain rfl : ops13[2]'(by decide) = o := Option.some.inj (show some (ops13[2]'(by decide)) = some o from ho)
  exact op13p_2 L S hI hL
 | 3, ho, hL =>
  obtain rfl : ops13[3]'(by decide) = o := Option.some.inj (show some (ops13[3]'(by decide)) = some o from ho)
  exact op13p_3 L S hI hL
 | 4, ho, hL =>
  obtain rfl : ops13[4]'(by decide) = o := Option.some.inj (show some (ops13[4]'(by decide)) = some o from ho)
  exact op13p_4 L S hI hL
 | 5, ho, hL =>
  obtain rfl : ops13[5]'(by decide) = o := Option.some.inj (show some (ops13[5]'(by decide)) = some o from ho)
  exact op13p_5 L S hI hL
 | 6, ho, hL =>
  obtain rfl : ops13[6]'(by decide) = o := Option.some.inj (show some (ops13[6]'(by decide)) = some o from ho)
  have k4 : L 4 = true := hd _ (Array.getElem_mem (i := 0) (by decide)) rfl
  have k5 : L 5 = true := hd _ (Array.getElem_mem (i := 1) (by decide)) rfl
  exact op13p_6 hk0 hen L S hI hL k4 k5
 | 7, ho, hL =>
  obtain rfl : ops13[7]'(by decide) = o := Option.some.inj (show some (ops13[7]'(by decide)) = some o from ho)
  have k6 : L 6 = true := hd _ (Array.getElem_mem (i := 0) (by decide)) rfl
  exact op13p_7 L S hI hL k6
 | 8, ho, hL =>
  obtain rfl : ops13[8]'(by decide) = o := Option.some.inj (show some (ops13[8]'(by decide)) = some o from ho)
  have k2 : L 2 = true := hd _ (Array.getElem_mem (i := 0) (by decide)) rfl
  have k3 : L 3 = true := hd _ (Array.getElem_mem (i := 1) (by decide)) rfl
  have k7 : L 7 = true := hd _ (Array.getElem_mem (i := 2) (by decide)) rfl
  exact op13p_8 hst L S hI hL k2 k3 k7
 | 9, ho, hL =>
  obtain rfl : ops13[9]'(by decide) = o := Option.some.inj (show some (ops13[9]'(by decide)) = some o from ho)
  have k8 : L 8 = true := hd _ (Array.getElem_mem (i := 0) (by decide)) rfl
  exact op13p_9 L S hI hL k8
 | 10, ho, hL =>
  obtain rfl : ops13[10]'(by decide) = o := Option.some.inj (show some (ops13[10]'(by decide)) = some o from ho)
  have k1 : L 1 = true := hd _ (Array.getElem_mem (i := 0) (by decide)) rfl
  have k8 : L 8 = true := hd _ (Array.getElem_mem (i := 2) (by decide)) rfl
  have k9 : L 9 = true := hd _ (Array.getElem_mem (i := 1) (by decide)) rfl
  exact op13p_10 htr L S hI hL k1 k8 k9
 | 11, ho, hL =>
  obtain rfl : ops13[11]'(by decide) = o := Option.some.inj (show some (ops13[11]'(by decide)) = some o from ho)
  exact op13p_11 L S hI hL
 | 12, ho, hL =>
  obtain rfl : ops13[12]'(by decide) = o := Option.some.inj (show some (ops13[12]'(by decide)) = some o from ho)
  have k10 : L 10 = true := hd _ (Array.getElem_mem (i := 1) (by decide)) rfl
  have k11 : L 11 = true := hd _ (Array.getElem_mem (i := 0) (by decide)) rfl
  exact op13p_12 L S hI hL k10 k11
 |n + 13, ho, hL =>
  have h1 : n + 13 < ops13.size := (Array.getElem?_eq_some_iff.1 ho).1
  have h2 : ops13.size = 13 := by decide
  omega
noncomputable def fG (p : ProgL) (ch : List Int) (budget : Int) : Nat → List Int → StL → List Ev → List Int → RunT × List Int
 | 0, rk, s, tr, tk => (⟨0, tr, tk, s⟩, rk)
 |n + 1, rk, s, tr, tk =>
  if yP p s tr.length budget ≠ 0 then (⟨yP p s tr.length budget, tr, tk, s⟩, rk)
  else fG p ch budget n (pkR (zA p s) ch tr.length rk).1 (zR p s ((zA p s).getD (pkR (zA p s) ch tr.length rk).2 0)).1 (tr ++ [(zR p s ((zA p s).getD (pkR (zA p s) ch tr.length rk).2 0)).2]) (tk ++ [((pkR (zA p s) ch tr.length rk).2 : Int)])
def oRP (p : ProgL) (pc : PctL) (rk : List Int) (s : StL) (tr : List Ev) (tk : List Int) : List (Key × Ob) := [(.n 3, .vs 31 ((encProg p).map .d)), (.n 6, .vs 78 [i64 0, .d .nil, .d .nil, .d .nil, .d .nil, .d .nil, i64 0]),
 (.n 8, .vs 78 ([i64 0, .ref (.n 12) 0 tr.length, .ref (.n 13) 0 tk.length] ++ stRef s)), (.n 12, .ds 120 5 (tr.map encEv)), (.n 13, .ds 3 1 (tk.map encInt)), (.n 900, .rs 123 6 (thRows 900 s.ths)), (.n 901, .ds 105 1 (s.cells.map encF)), (.n 902, .ds 3 1 (s.owner.map encInt)),
 (.l 20, .vs 137 [.fn 103 [.ptr (.l 22) 0]]), (.l 21, .vs 70 ((vW pc).map .d)), (.l 22, .vs 25 [.ref (.n 980) 0 5]), (.n 980, .ds 3 1 (rk.map encInt))]
theorem pickR_at {pc : PctL} {rk : List Int} {H : Key → Option Ob} (h0 : H (.l 20) = some (.vs 137 [.fn 103 [.ptr (.l 22) 0]])) (h1 : H (.l 21) = some (.vs 70 ((vW pc).map .d))) (h2 : H (.l 22) = some (.vs 25 [.ref (.n 980) 0 5])) (h3 : H (.n 980) = some (.ds 3 1 (rk.map encInt)))
  (hch : pc.changes.length ≤ 1000) (hrl : rk.length = 5) (en : List Nat) (he : en ≠ []) (h5 : en.length ≤ 5) (hel : ∀ k ∈ en, k < 5) (n : Nat) :
  IOCall EE 105 [sl (en.map yA), i64 n, .ptr (.l 20) 0, .ptr (.l 21) 0, .ptr (.l 22) 0] (yK pV H) (fun r H1 => r = i64 ((pkR en pc.changes n rk).2 : Nat) ∧ H1 = dY pc (pkR en pc.changes n rk).1) := by
 rw [mG h0 h1 h2 h3]; exact pickR_ok pc hch rk hrl en he h5 hel n
theorem pkR_len {en : List Nat} {ch : List Int} {n : Nat} {rk : List Int} : (pkR en ch n rk).1.length = rk.length := by
 unfold pkR; split <;> simp
theorem pkR_lt {en : List Nat} {ch : List Int} {n : Nat} {rk : List Int} (he : en ≠ []) : (pkR en ch n rk).2 < en.length := by
 have hne : yE en ≠ [] := by intro e; simp [yE] at e; exact he e
 have hnl : (yE en).length = en.length := by simp [yE]
 have ht : ∀ rk', yG rk' (yE en) en.length < en.length := fun rk' => by have := qS rk' (yE en) hne en.length (by omega); omega
 unfold pkR; split <;> exact ht _
theorem thRows_frz {p : Key → Bool} {H : Key → Option Ob} {l : List Th} (hp : ∀ j, p (.s 900 j) = true) (hH : ∀ j, H (.s 900 j) = zQ l j) : (thRows 900 l).map (bZ p H) = (l.map zF).map (List.map .d) := by
 apply List.ext_getElem?
 intro i
 rw [List.getElem?_map, thRows_jo, List.getElem?_map, List.getElem?_map]
 cases hl : l[i]? with
 |none => rfl
 |some t =>
  have : H (.s 900 i) = some (.ds 105 1 (stk t)) := by rw [hH, zQ, hl]; rfl
  simp [thRow, bZ, frz, hp, this, zF, stk, i64, List.take_of_length_le]
def isS9 : Key → Bool
 | .s o _ => Nat.beq o 900
 | _ => false
theorem runQ_ok (hI : yW) (p : ProgL) (hp : p.wf) (h1 : InR p.cells 0 1048576) (h2 : InR p.locks 0 1048576) (Inv : StL → Prop) (hI0 : Inv (wE p)) (hok : RunI p Inv) (budget : Int) (hb : InR budget 0 1048576) (pc : PctL) (hrk0 : pc.ranks.length = 5) (hch : pc.changes.length ≤ 1000) :
  IOCall EE 104 [agg (encProg p), i64 budget, pkV] (dY pc pc.ranks) (fun r H1 => ∃ rk', r = .tup [agg (dM (fG p pc.changes budget (budget.toNat + 1) pc.ranks (wE p) [] []).1), bv true] ∧ H1 = dY pc rk') := by
 refine fV (fn := Tryz.f104) (c := Tryz.f104.body.getD .skip) Tryz.func104 rfl (by kernel_rfl) rfl ?_
 conv => whnf
 refine ⟨_, start_ok p h1 h2, ?_⟩
 rintro r rfl
 conv => whnf
 refine bG (fun x : List Int × StL × List Ev × List Int => [(1, i64 budget), (2, pkV), (3, .ptr (.n 3) 0), (6, .ptr (.n 6) 0), (7, bv false), (8, .ptr (.n 8) 0), (9, i64 x.2.2.1.length)]) (fun x => oRP p pc x.1 x.2.1 x.2.2.1 x.2.2.2) (fun x => [(900, zQ x.2.1.ths)]) (fun x => budget.toNat - x.2.2.1.length)
  (fun x => x.1.length = 5 ∧ Inv x.2.1 ∧ x.2.2.1.length = x.2.2.2.length ∧ (x.2.2.1.length : Int) ≤ budget ∧ fG p pc.changes budget (budget.toNat + 1 - x.2.2.1.length) x.1 x.2.1 x.2.2.1 x.2.2.2 = fG p pc.changes budget (budget.toNat + 1) pc.ranks (wE p) [] []) (pc.ranks, wE p, [], [])
  Weak.refl ?_ ?_ ?_ ⟨hrk0, hI0, rfl, hb.1, rfl⟩ ?_
 ·exact ⟨rfl, rfl, rfl, rfl, rfl, rfl, rfl, trivial⟩
 ·refine ⟨rfl, rfl, ?_, rfl, rfl, ?_, ?_, ?_, rfl, rfl, rfl, rfl, trivial⟩
  ·show some (Ob.vs 78 [i64 0, .ref (.n 12) 0 0, .ref (.n 13) 0 0, .dref (.n 900) ((wE p).ths.map bB).length, .ref (.n 901) 0 ((wE p).cells.map encF).length, .ref (.n 902) 0 ((wE p).owner.map encInt).length, i64 0]) = some (Ob.vs 78 [i64 0, .ref (.n 12) 0 0, .ref (.n 13) 0 0, .dref (.n 900) (wE p).ths.length, .ref (.n 901) 0 (wE p).cells.length, .ref (.n 902) 0 (wE p).owner.length, i64 0])
   rw [List.length_map, List.length_map, List.length_map]
  ·conv => lhs; whnf
   refine congrArg some ?_
   repeat (first | exact rfl | refine xQ ?_ (congrArg (Ob.rs 123 6) (yJ fun _ _ => rfl)))
  ·rfl
  ·rfl
 ·refine ⟨fun j => ?_, trivial⟩
  conv => lhs; whnf
  repeat (first | exact own_fam (wE p) j | (refine hscrO ?_ (yM _ _ _); conv => lhs; whnf))
 rintro ⟨rk, s, tr, tk⟩ τ H ⟨hrl, hinv, hlen, hle, hrun⟩
 have hrl : rk.length = 5 := hrl
 have hs := hok.small s hinv
 conv => whnf
 refine .inl ⟨[.fp (yN s), agg (encProg p)], [], _, ⟨_, _, rfl, fz_run (x0 := i64 0) (x1 := .ref (.n 12) 0 tr.length) (x2 := .ref (.n 13) 0 tk.length) rfl ⟨rfl, fun j hj => thFam_self hj, rfl, rfl⟩, _, _, rfl, fz_prog p, rfl⟩, rfl, enabledI_ok hI p s hp hs.1 (hok.seen s hinv), ?_⟩
 rintro r rfl
 refine ⟨?_, .inl ?_⟩
 ·intro c hc
  obtain ⟨y, _, rfl⟩ := List.mem_map.1 hc
  rfl
 conv => whnf
 refine .inl ⟨[agg (encProg p), .fp (yN s), sl ((zA p s).map yA), i64 tr.length, i64 budget], [], _, ⟨_, _, rfl, fz_prog p, _, _, rfl, fz_run (x0 := i64 0) (x1 := .ref (.n 12) 0 tr.length) (x2 := .ref (.n 13) 0 tk.length) rfl ⟨rfl, fun j hj => thFam_self hj, rfl, rfl⟩, _, _, rfl, rfl, _, _, rfl, rfl, _, _, rfl, rfl, rfl⟩, rfl, codeOf_ok p s tr.length budget hs.1, ?_⟩
 rintro r rfl
 refine ⟨rfl, ?_⟩
 conv => whnf
 have hfuel : budget.toNat + 1 - tr.length = (budget.toNat - tr.length) + 1 := by
  have : (tr.length : Int) ≤ budget := hle
  omega
 have hrun : fG p pc.changes budget (budget.toNat + 1 - tr.length) rk s tr tk = _ := hrun
 rw [hfuel] at hrun
 refine kbi (fun hc => ?_) (fun hc => ?_)
 ·have hc : yP p s tr.length budget ≠ 0 := by simpa using hc
  conv => whnf
  refine .inl ⟨[agg (yN s)], [], _, ⟨_, _, rfl, ⟨yN s, rfl, fz_st ⟨rfl, fun j hj => thFam_self hj, rfl, rfl⟩ rfl rfl rfl⟩, rfl⟩, rfl, copied_ok s hs.1, ?_⟩
  rintro r rfl
  refine ⟨ownSt_flat s, ?_⟩
  conv => whnf
  refine ⟨_, (lM isS9).trans ((weak_cvt (.n 900) (e := 123) (sz := 6) (els := s.ths.map zF) ?_).trans (lM fun κ => isK (.n 12) κ || isK (.n 13) κ || isK (.n 900) κ || isK (.n 901) κ || isK (.n 902) κ)), ?_⟩
  ·show some (Ob.rs 123 6 ((thRows 900 s.ths).map (bZ isS9 _))) = _
   rw [thRows_frz (fun j => rfl) fun j => ?_]
   show (match ownH (qV s) (.s 900 j) with | some ob => some ob | none => _) = zQ s.ths j
   show (match ((s.ths.map stk)[j]?).map (Ob.ds 105 1) with | some ob => some ob | none => _) = _
   rw [List.getElem?_map, zQ]
   cases hj : s.ths[j]? with
   |none =>
    show Option.map _ (zQ s.ths j) = none
    rw [zQ, hj]; rfl
   |some u => rfl
  conv => whnf
  refine ⟨pV, rk, ?_, mG rfl rfl rfl rfl⟩
  rw [← hrun]
  simp only [fG, if_pos hc]
  show AV.tup [AV.agg [i64 (yP p s tr.length budget), sl (((tr.map encEv).drop 0).take tr.length), sl (((tk.map encInt).drop 0).take tk.length), sl (((s.ths.map zF).drop 0).take (s.ths.map bB).length), sl (((s.cells.map encF).drop 0).take (s.cells.map encF).length), sl (((s.owner.map encInt).drop 0).take (s.owner.map encInt).length), i64 s.fault], bv true] = _
  simp [List.take_of_length_le, dM, kP, agg]
 have hc : ¬ yP p s tr.length budget ≠ 0 := by simpa using hc
 have hc : yP p s tr.length budget = 0 := by simpa using hc
 conv => whnf
 have hen : zA p s ≠ [] := by
  intro he
  have := hc
  unfold yP at this
  by_cases hf : s.fault ≠ 0
  ·rw [if_pos hf] at this; exact absurd this (by decide)
  ·rw [if_neg hf, if_pos he] at this; split at this <;> exact absurd this (by decide)
 have h5e : (zA p s).length ≤ 5 := Nat.le_trans uX hs.2
 have hel : ∀ k ∈ zA p s, k < 5 := fun k hk => by have h9 := (List.mem_filter.1 hk).1; have h9 : k < s.ths.length := (by simpa using h9); have := hs.2; omega
 refine .inr (.inl ⟨999, 99, pV, _, mK (pickR_at (pc := pc) (rk := rk) rfl rfl rfl rfl hch hrl (zA p s) hen h5e hel tr.length) rfl, rfl, ?_⟩)
 rintro r H1 ⟨rfl, rfl⟩
 refine ⟨aS, fun n hn => ?_, ?_⟩
 ·have hn : (Nat.beq n 20 || Nat.beq n 21 || Nat.beq n 22) = true := hn
  simp only [Bool.or_eq_true] at hn
  rcases hn with (hn | hn) | hn
  all_goals
   have := Nat.eq_of_beq_eq_true hn
   subst this
   exact ⟨_, _, _, rfl, rfl⟩
 conv => whnf
 have hlb : (tr.length : Int) ≠ budget := by
  intro he
  have := hc
  unfold yP at this
  by_cases hf : s.fault ≠ 0
  ·rw [if_pos hf] at this; exact absurd this (by decide)
  ·rw [if_neg hf, if_neg hen, if_pos he] at this; exact absurd this (by decide)
 have hk2 := pkR_lt (ch := pc.changes) (n := tr.length) (rk := rk) hen
 have hpl := pkR_len (en := zA p s) (ch := pc.changes) (n := tr.length) (rk := rk)
 have hrun2 : fG p pc.changes budget (budget.toNat - tr.length) (pkR (zA p s) pc.changes tr.length rk).1 (zR p s ((zA p s).getD (pkR (zA p s) pc.changes tr.length rk).2 0)).1 (tr ++ [(zR p s ((zA p s).getD (pkR (zA p s) pc.changes tr.length rk).2 0)).2]) (tk ++ [((pkR (zA p s) pc.changes tr.length rk).2 : Int)]) = fG p pc.changes budget (budget.toNat + 1) pc.ranks (wE p) [] [] := by
  rw [← hrun]; simp only [fG, hc]; rfl
 generalize hkv : pkR (zA p s) pc.changes tr.length rk = kr at *
 obtain ⟨rk2, kN⟩ := kr
 have hk2 : kN < (zA p s).length := hk2
 have hrun2 : fG p pc.changes budget (budget.toNat - tr.length) rk2 (zR p s ((zA p s).getD ((kN : Nat) : Int).toNat 0)).1 (tr ++ [(zR p s ((zA p s).getD ((kN : Nat) : Int).toNat 0)).2]) (tk ++ [(kN : Int)]) = fG p pc.changes budget (budget.toNat + 1) pc.ranks (wE p) [] [] := hrun2
 have hpl : rk2.length = rk.length := hpl
 have hk1 : (0 : Int) ≤ (kN : Int) := by omega
 have hkl : ((kN : Nat) : Int).toNat < (zA p s).length := by omega
 have hmem : (zA p s).getD ((kN : Nat) : Int).toNat 0 ∈ zA p s := by rw [List.getD_eq_getElem?_getD, List.getElem?_eq_getElem hkl]; exact List.getElem_mem hkl
 have hwl : (zA p s).getD ((kN : Nat) : Int).toNat 0 < s.ths.length := by have := (List.mem_filter.1 hmem).1; simpa using this
 conv => whnf
 refine kbi (fun hk => ?_) (fun hk => ?_)
 ·have hk : (kN : Int) < 0 := of_decide_eq_true hk
  omega
 conv => whnf
 have hlen' : tr.length = tk.length := hlen
 have hle' : (tr.length : Int) ≤ budget := hle
 have hb2 := hb.2
 refine ⟨⟨rfl, by show (tk.length + 1) * 8 ≤ _; omega, by show tk.length + 1 ≤ _; omega⟩, ?_⟩
 conv => whnf
 generalize hwd : (zA p s).getD ((kN : Nat) : Int).toNat 0 = w at *
 have hen13 : ((zA p s).map yA)[((kN : Nat) : Int).toNat]? = some (yA w) := by rw [← hwd]; exact en_get hkl
 have htr : tr.length ≤ 1048576 := by omega
 refine .inr (.inr (.inl (draw13p (p := p) (s := s) (s1 := (zR p s w).1) (ev := (zR p s w).2) (tr := tr) (tk := tk) (kk := (kN : Int)) (w := w) (budget := budget) (pc := pc) (rk := rk2) hk1 hen13 htr
  (fun v0 v1 H0 hH => stepI_ok hI 78 (i64 0) (.lit v0) (.lit v1) (inert_d _) (eG _) (eG _) p s w hp hwl hs.2 hs.1 (hok.ready s hinv w hmem hwl) (hok.awake s hinv w hmem hwl) (hok.flt s hinv _ (List.getElem_mem hwl)) (hok.joins s hinv w hmem hwl) H0 hH) _ _ ?_ ?_)))
 ·exact {
   u1 := rfl
   u2 := rfl
   u3 := rfl
   u6 := rfl
   u7 := rfl
   u8 := rfl
   u9 := rfl
   u10 := rfl
   u11 := rfl
   h3 := rfl
   h6 := rfl
   x20 := rfl
   x21 := rfl
   x22 := rfl
   x98 := rfl
   h13 := by
    show some (Ob.ds 3 1 ((tk.map encInt).take tk.length ++ [encInt (kN : Int)])) = _
    rw [List.take_of_length_le (by simp)]
    simp
   c0 := fun h => by cases h
   c1 := fun h => by cases h
   c2 := fun h => by cases h
   c3 := fun h => by cases h
   c4 := fun h => by cases h
   c5 := fun h => by cases h
   c6 := fun h => by cases h
   c7 := fun h => by cases h
   c8 := fun h => by cases h
   c9 := fun h => by cases h
   c10 := fun h => by cases h
   c11 := fun h => by cases h
   e9 := fun h => by cases h
   d12a := fun _ => rfl
   d12b := fun h => by cases h
   d8a := fun _ => by
    show some (Ob.vs 78 ([i64 (yP p s tr.length budget), .ref (.n 12) 0 tr.length, .ref (.n 13) 0 (tk.length + 1)] ++ stRef s)) = _
    rw [hc]
   d8b := fun h => by cases h
   d8c := fun h => by cases h
   d8d := fun h => by cases h
   sa0 := fun _ => by
    conv => lhs; whnf
    refine congrArg some ?_
    repeat (first | exact rfl | refine xQ ?_ (congrArg (Ob.rs 123 6) (yJ fun _ _ => rfl)) | refine hren' ?_ (congrArg (Ob.rs 123 6) (qU _ _ _ _)))
   saF := fun _ j => by
    repeat (first | exact rfl | refine hscrO ?_ (yM _ _ _) | refine hrenO ?_ (thFam_ren _ _ _) | conv => lhs; whnf)
   sa1 := fun _ => rfl
   sa2 := fun _ => rfl
   sb0 := fun h => by cases h
   sbF := fun h => by cases h
   sb1 := fun h => by cases h
   sb2 := fun h => by cases h
   o1 := fun h => by cases h
   o2 := fun h => by cases h
   o3 := fun h => by cases h
   o4 := fun h => by cases h }
 intro L S' hL r
 have hat : At [(1, i64 budget), (2, pkV), (3, .ptr (.n 3) 0), (6, .ptr (.n 6) 0), (7, bv false), (8, .ptr (.n 8) 0), (9, i64 tr.length)]
  [(.n 3, .vs 31 ((encProg p).map .d)), (.n 6, .vs 78 [i64 0, .d .nil, .d .nil, .d .nil, .d .nil, .d .nil, i64 0]), (.n 8, .vs 78 ([i64 0, .ref (.n 12) 0 (tr.length + 1), .ref (.n 13) 0 (tk.length + 1)] ++ stRef (zR p s w).1)), (.n 12, .ds 120 5 ((tr ++ [(zR p s w).2]).map encEv)), (.n 13, .ds 3 1 ((tk ++ [(kN : Int)]).map encInt)),
   (.n 900, .rs 123 6 (thRows 900 (zR p s w).1.ths)), (.n 901, .ds 105 1 ((zR p s w).1.cells.map encF)), (.n 902, .ds 3 1 ((zR p s w).1.owner.map encInt)), (.l 20, .vs 137 [.fn 103 [.ptr (.l 22) 0]]), (.l 21, .vs 70 ((vW pc).map .d)), (.l 22, .vs 25 [.ref (.n 980) 0 5]), (.n 980, .ds 3 1 (rk2.map encInt))] [(900, zQ (zR p s w).1.ths)] S' :=
  ⟨⟨r.u1, r.u2, r.u3, r.u6, r.u7, r.u8, r.u9, trivial⟩, ⟨r.h3, r.h6, r.d8d (hL 12 (by decide)), r.d12b (hL 10 (by decide)), r.h13, r.sb0 (hL 8 (by decide)), r.sb1 (hL 8 (by decide)), r.sb2 (hL 8 (by decide)), r.x20, r.x21, r.x22, r.x98, trivial⟩, ⟨r.sbF (hL 8 (by decide)), trivial⟩⟩
 obtain ⟨τ', H', rfl⟩ := hat.form
 clear r hat
 have hrun2 := hrun2
 generalize hst : zR p s w = st at *
 have ew : IntKind.i64.wrap ((tr.length : Int) + 1) = (((tr ++ [st.2]).length : Nat) : Int) := by rw [zD (by omega) (by omega)]; simp
 conv => whnf
 refine ⟨(rk2, st.1, tr ++ [st.2], tk ++ [(kN : Int)]), _, Weak.refl, ⟨hpl.trans hrl, hst ▸ hok.step s hinv w hmem, by simp; exact hlen', by simp; omega, ?_⟩, ?_, ⟨rfl, rfl, rfl, rfl, rfl, rfl, ?_, trivial⟩, ⟨rfl, rfl, ?_, rfl, rfl, rfl, rfl, rfl, rfl, rfl, rfl, rfl, trivial⟩, ⟨fun j => rfl, trivial⟩⟩
 ·show fG p pc.changes budget (budget.toNat + 1 - (tr ++ [st.2]).length) rk2 st.1 (tr ++ [st.2]) (tk ++ [(kN : Int)]) = _
  rw [show budget.toNat + 1 - (tr ++ [st.2]).length = budget.toNat - tr.length by simp]
  exact hrun2
 ·show budget.toNat - (tr ++ [st.2]).length < budget.toNat - tr.length
  simp; omega
 ·show AV.d (.int .i64 (IntKind.i64.wrap ((tr.length : Int) + 1))) = i64 ((tr ++ [st.2]).length : Nat)
  rw [ew]
 ·show some (Ob.vs 78 ([i64 0, .ref (.n 12) 0 (tr.length + 1), .ref (.n 13) 0 (tk.length + 1)] ++ stRef st.1)) = some (Ob.vs 78 ([i64 0, .ref (.n 12) 0 (tr ++ [st.2]).length, .ref (.n 13) 0 (tk ++ [(kN : Int)]).length] ++ stRef st.1))
  rw [List.length_append, List.length_append]
  rfl
end Ai
end
section
set_option maxRecDepth 100000
namespace Ai
open Go Go.Proofs Cyc
theorem swp_l {a b n : Nat} (h : n ≠ b) : swp (.n a) (.l b) (.l n) = .l n := by simp [swp, Key.beq, nbeq_ne h]
theorem swp_lb {a b : Nat} : swp (.n a) (.l b) (.l b) = .n a := by simp [swp, Key.beq]
theorem IOCall.low {E : Env} {g : FuncId} {xs : List AV} {H0 : Key → Option Ob} {Post : AV → (Key → Option Ob) → Prop} (a b : Nat) (h : IOCall E g xs H0 Post) (hn : ∀ r H1, Post r H1 → H1 (.n a) = none) :
  IOCall E g (xs.map (ren (swp (.n a) (.l b)))) (swH (.n a) (.l b) H0) (fun r H1 => Post (ren (swp (.n a) (.l b)) r) (swH (.n a) (.l b) H1)) := by
 intro w0 A m w vs hH hl hrel
 have hH' : HRel E ⟨A.A, A.X, A.h, fun n => if n = b then some (m (.n a)) else A.pin n⟩ w0 (swM (.n a) (.l b) m) H0 w := by
  have h1 := (hH.toS).noPin.sw (.n a) (.l b) (fun n hn => absurd rfl hn)
  have h2 := h1.toH
  have e : (St.swap (.n a) (.l b) ⟨fun _ => .junk, swH (.n a) (.l b) H0⟩).H = H0 := swH_swH _ _ _
  rw [e] at h2
  refine ⟨h2.below, h2.inv, h2.objs, h2.inj, h2.hA, h2.fr, fun n hp hs => ?_⟩
  show some (m (swp (.n a) (.l b) (.l n))) = if n = b then some (m (.n a)) else A.pin n
  by_cases hnb : n = b
  ·subst hnb; rw [if_pos rfl, swp_lb]
  ·rw [if_neg hnb, swp_l hnb]
   have hp : (if n = b then some (m (.n a)) else A.pin n) ≠ none := hp
   rw [if_neg hnb] at hp
   refine hH.pin n hp ?_
   simp only [swH, swp_l hnb]
   intro hh; exact hs (by cases hq : H0 (.l n) with | none => rfl | some o => rw [hq] at hh; cases hh)
 refine (h w0 _ (swM (.n a) (.l b) m) w vs hH' (by simpa using hl) fun i c v hc hv => ?_).mono ?_
 ·have := (hrel i (ren (swp (.n a) (.l b)) c) v (by rw [List.getElem?_map, hc]; rfl) hv).ren (x := .n a) (y := .l b) (ok' := okB A (swH (.n a) (.l b) (swH (.n a) (.l b) H0)) (swM (.n a) (.l b) m) w) fun b hb => qJ hb
  rw [ren_ren, swH_swH] at this
  exact this
 ·rintro v w' ⟨r, H1, m1, hP, hH1, hv⟩
  have h3 : HRel E A w0 (swM (.n a) (.l b) m1) (swH (.n a) (.l b) H1) w' := by
   have h1 := (hH1.toS).noPin.sw (.n a) (.l b) (fun n hn => absurd rfl hn)
   have h2 := h1.toH
   refine ⟨h2.below, h2.inv, h2.objs, h2.inj, h2.hA, h2.fr, fun n hp hs => ?_⟩
   by_cases hnb : n = b
   ·subst hnb
    exact absurd (by simp only [swH, swp_lb, hn r H1 hP]; rfl) hs
   ·show some (m1 (swp (.n a) (.l b) (.l n))) = A.pin n
    rw [swp_l hnb]
    have hs : swH (.n a) (.l b) H1 (.l n) ≠ none := hs
    simp only [swH, swp_l hnb] at hs
    have := hH1.pin n (by show (if n = b then _ else A.pin n) ≠ none; rw [if_neg hnb]; exact hp) (fun hh => hs (by rw [hh]; rfl))
    have e : (if n = b then some (m (.n a)) else A.pin n) = A.pin n := if_neg hnb
    exact this.trans e
  refine ⟨ren (swp (.n a) (.l b)) r, swH (.n a) (.l b) H1, swM (.n a) (.l b) m1, ?_, h3, hv.ren fun b hb => qJ hb⟩
  show Post (ren (swp (.n a) (.l b)) (ren (swp (.n a) (.l b)) r)) (swH (.n a) (.l b) (swH (.n a) (.l b) H1))
  rw [ren_ren, swH_swH]; exact hP
def cM (pc : PctL) (rk : List Int) : Key → Option Ob
 | .n j => bif Nat.beq j 920 then some (.vs 137 [.fn 103 [.ptr (.n 922) 0]]) else bif Nat.beq j 921 then some (.vs 70 ((vW pc).map .d)) else bif Nat.beq j 922 then some (.vs 25 [.ref (.n 980) 0 5]) else bif Nat.beq j 980 then some (.ds 3 1 (rk.map encInt)) else none
 | _ => none
def lendQ : Key → Bool
 | .n j => Nat.beq j 920 || Nat.beq j 921 || Nat.beq j 922 || Nat.beq j 980
 | _ => false
def low3 (H : Key → Option Ob) : Key → Option Ob := swH (.n 922) (.l 22) (swH (.n 921) (.l 21) (swH (.n 920) (.l 20) H))
theorem low3_pct (pc : PctL) (rk : List Int) : low3 (dY pc rk) = cM pc rk := by
 funext κ
 cases κ with
 |n j =>
  by_cases h1 : j = 920
  ·subst h1; rfl
  by_cases h2 : j = 921
  ·subst h2; rfl
  by_cases h3 : j = 922
  ·subst h3; rfl
  by_cases h4 : j = 980
  ·subst h4; rfl
  simp [low3, swH, swp, Key.beq, nbeq_ne h1, nbeq_ne h2, nbeq_ne h3, nbeq_ne h4, dY, cM]
 |l j =>
  by_cases h1 : j = 20
  ·subst h1; rfl
  by_cases h2 : j = 21
  ·subst h2; rfl
  by_cases h3 : j = 22
  ·subst h3; rfl
  simp [low3, swH, swp, Key.beq, nbeq_ne h1, nbeq_ne h2, nbeq_ne h3, dY, cM]
 |s o j => rfl
theorem aQ {pc : PctL} {rk : List Int} : ∀ κ, lendQ κ = false → cM pc rk κ = none
 | .l j, h => rfl
 | .n j, h => by
  have h : (Nat.beq j 920 || Nat.beq j 921 || Nat.beq j 922 || Nat.beq j 980) = false := h
  simp only [Bool.or_eq_false_iff] at h
  simp [cM, h.1.1.1, h.1.1.2, h.1.2, h.2]
 | .s o j, h => rfl
theorem lend_pctQ {pc : PctL} {rk : List Int} {H : Key → Option Ob} (h0 : H (.n 920) = some (.vs 137 [.fn 103 [.ptr (.n 922) 0]])) (h1 : H (.n 921) = some (.vs 70 ((vW pc).map .d))) (h2 : H (.n 922) = some (.vs 25 [.ref (.n 980) 0 5])) (h3 : H (.n 980) = some (.ds 3 1 (rk.map encInt))) : yK lendQ H = cM pc rk := by
 funext κ
 cases hk : lendQ κ with
 |false => rw [aQ κ hk, mH hk]
 |true =>
  rw [vT hk]
  cases κ with
  |n j =>
   have hk : (Nat.beq j 920 || Nat.beq j 921 || Nat.beq j 922 || Nat.beq j 980) = true := hk
   simp only [Bool.or_eq_true] at hk
   rcases hk with ((hk | hk) | hk) | hk
   ·have := Nat.eq_of_beq_eq_true hk
    subst this; rw [h0]; rfl
   ·have := Nat.eq_of_beq_eq_true hk
    subst this; rw [h1]; rfl
   ·have := Nat.eq_of_beq_eq_true hk
    subst this; rw [h2]; rfl
   ·have := Nat.eq_of_beq_eq_true hk
    subst this; rw [h3]; rfl
  |l j => cases hk
  |s o j => cases hk
theorem runQ_low (hI : yW) (p : ProgL) (hp : p.wf) (h1 : InR p.cells 0 1048576) (h2 : InR p.locks 0 1048576) (Inv : StL → Prop) (hI0 : Inv (wE p)) (hok : RunI p Inv) (budget : Int) (hb : InR budget 0 1048576) (pc : PctL) (hrk0 : pc.ranks.length = 5) (hch : pc.changes.length ≤ 1000) :
  IOCall EE 104 [agg (encProg p), i64 budget, .fn 105 [.ptr (.n 920) 0, .ptr (.n 921) 0, .ptr (.n 922) 0]] (cM pc pc.ranks) (fun r H1 => r = .tup [agg (dM (fG p pc.changes budget (budget.toNat + 1) pc.ranks (wE p) [] []).1), bv true] ∧ ∃ rk', H1 = cM pc rk') := by
 have h := runQ_ok hI p hp h1 h2 Inv hI0 hok budget hb pc hrk0 hch
 have l1 := IOCall.low 920 20 h (by rintro r H1 ⟨rk', _, rfl⟩; rfl)
 have l2 := IOCall.low 921 21 l1 (by
  rintro r H1 ⟨rk', _, hH⟩
  have : H1 = swH (.n 920) (.l 20) (dY pc rk') := by rw [← hH, swH_swH]
  rw [this]; rfl)
 have l3 := IOCall.low 922 22 l2 (by
  rintro r H1 ⟨rk', _, hH⟩
  have : H1 = swH (.n 921) (.l 21) (swH (.n 920) (.l 20) (dY pc rk')) := by rw [← hH, swH_swH, swH_swH]
  rw [this]; rfl)
 have e0 : swH (.n 922) (.l 22) (swH (.n 921) (.l 21) (swH (.n 920) (.l 20) (dY pc pc.ranks))) = cM pc pc.ranks := low3_pct pc pc.ranks
 rw [e0] at l3
 have e1 : (((([agg (encProg p), i64 budget, pkV].map (ren (swp (.n 920) (.l 20)))).map (ren (swp (.n 921) (.l 21)))).map (ren (swp (.n 922) (.l 22))))) = [agg (encProg p), i64 budget, .fn 105 [.ptr (.n 920) 0, .ptr (.n 921) 0, .ptr (.n 922) 0]] := by
  simp only [List.map_cons, List.map_nil, rP]; rfl
 rw [e1] at l3
 refine IOCall.mono l3 ?_
 rintro r H1 ⟨rk', hr, hH⟩
 refine ⟨?_, rk', ?_⟩
 ·have e : ∀ (f : Key → Key) (l : List D), ren f (.tup [agg l, bv true]) = .tup [agg l, bv true] := fun f l => by
   show AV.tup [ren f (agg l), ren f (bv true)] = _
   rw [rP]; rfl
  have h3 := congrArg (fun x => ren (swp (.n 922) (.l 22)) (ren (swp (.n 921) (.l 21)) (ren (swp (.n 920) (.l 20)) x))) hr
  simp only [ren_ren, e] at h3
  exact h3
 ·have h3 := congrArg low3 hH
  rw [low3_pct] at h3
  simp only [low3, swH_swH] at h3
  exact h3
end Ai
end
section
set_option maxRecDepth 100000
namespace Ai
open Go Go.Proofs Cyc
theorem runQ_at {H : Key → Option Ob} (p : ProgL) (hp : p.wf) (hg : p.goodS) (hv : p.flt) (budget : Int) (hb : InR budget 0 1048576) (pc : PctL) (hrk0 : pc.ranks.length = 5) (hch : pc.changes.length ≤ 1000)
  (h0 : H (.n 920) = some (.vs 137 [.fn 103 [.ptr (.n 922) 0]])) (h1 : H (.n 921) = some (.vs 70 ((vW pc).map .d))) (h2 : H (.n 922) = some (.vs 25 [.ref (.n 980) 0 5])) (h3 : H (.n 980) = some (.ds 3 1 (pc.ranks.map encInt))) :
  IOCall EE 104 [agg (encProg p), i64 budget, .fn 105 [.ptr (.n 920) 0, .ptr (.n 921) 0, .ptr (.n 922) 0]] (yK lendQ H) (fun r H1 => r = .tup [agg (dM (fG p pc.changes budget (budget.toNat + 1) pc.ranks (wE p) [] []).1), bv true] ∧ ∃ rk', H1 = cM pc rk') := by
 rw [lend_pctQ h0 h1 h2 h3]
 obtain ⟨b1, b2, b3, b4⟩ := hg.1
 exact runQ_low toIndexI p hp ⟨b1.1, by have := b1.2; omega⟩ ⟨b2.1, by have := b2.2; omega⟩ _ ⟨oL hg, flt_new p⟩ (runI hg hv) budget hb pc hrk0 hch
theorem runPct_ok (p : ProgL) (hp : p.wf) (hg : p.goodS) (hv : p.flt) (budget : Int) (hb : InR budget 0 1048576) (pc : PctL) (hrk0 : pc.ranks.length = 5) (hch : pc.changes.length ≤ 1000) :
  CallsTo EE 60 [agg (encProg p), agg (vW pc), i64 budget] (· = agg (dM (fG p pc.changes budget (budget.toNat + 1) pc.ranks (wE p) [] []).1)) := by
 refine callsTo_of_AW (fn := Tryz.f60) Tryz.func60 rfl (by kernel_rfl) rfl ?_
 conv => whnf
 refine ⟨_, Clone_ok pc.ranks (by omega), ?_⟩
 rintro r rfl
 refine .inr ⟨_, rfl, ?_⟩
 conv => whnf
 refine .inr (.inr (.inl ⟨_, 104, [], (wM 8 920).trans ((wM 4 921).trans ((wM 7 922).trans (wM 13 980))), rfl, 999, 99, lendQ, _, mK (runQ_at p hp hg hv budget hb pc hrk0 hch rfl rfl ?_ rfl) rfl, rfl, ?_⟩))
 ·show some (Ob.vs 25 [.ref (.n 980) 0 (pc.ranks.map encInt).length]) = _
  rw [List.length_map, hrk0]
 generalize fG p pc.changes budget (budget.toNat + 1) pc.ranks (wE p) [] [] = x
 obtain ⟨⟨c, tr, tk, s⟩, rk2⟩ := x
 rintro r H1 ⟨rfl, rk', rfl⟩
 refine ⟨aQ, fun n hn => (by cases hn), ?_⟩
 conv => whnf
 rfl
end Ai
end
section
set_option maxRecDepth 100000
namespace Ai
open Go Go.Proofs Cyc
theorem low_idx (en : List Nat) (ch : List Int) (n : Nat) (rk : List Int) (k : Nat) (hnd : ch.Nodup) : ∀ j, j ≤ ch.length → zT en ch n rk k j = (match cP ch n with
  |some i => if i < j then (rk.set (en.getD k 0) (-1 - (i : Int)), yG (rk.set (en.getD k 0) (-1 - (i : Int))) (yE en) en.length) else (rk, k)
  |none => (rk, k))
 | 0, _ => by
  cases cP ch n with
  |none => rfl
  |some i => simp [zT]
 |j + 1, hj => by
  have ih := low_idx en ch n rk k hnd j (by omega)
  have hg : ch.getD j 0 = ch[j]'(by omega) := by rw [List.getD_eq_getElem?_getD, List.getElem?_eq_getElem (by omega)]; rfl
  unfold zT
  rw [ih, hg]
  cases hi : cP ch n with
  |none =>
   have h := List.findIdx?_eq_none_iff.1 hi _ (List.getElem_mem (show j < ch.length by omega))
   have h : ¬ ch[j]'(by omega) = (n : Int) := by simpa using h
   simp only [if_neg h]
  |some i =>
   obtain ⟨hil, h1, h2⟩ := List.findIdx?_eq_some_iff_getElem.1 hi
   have h1 : ch[i] = (n : Int) := by simpa using h1
   by_cases he : ch[j]'(by omega) = (n : Int)
   ·have hij : i = j := by
     rcases Nat.lt_trichotomy i j with h | h | h
     ·exact absurd (h1.trans he.symm) (List.pairwise_iff_getElem.1 hnd i j hil (by omega) h)
     ·exact h
     ·exact absurd he (by simpa using h2 j h)
    subst hij
    rw [if_pos he]
    simp
   ·have hij : i ≠ j := fun e => he (by subst e; exact h1)
    simp only [if_neg he]
    by_cases hlt : i < j
    ·rw [if_pos hlt, if_pos (by omega)]
    ·rw [if_neg hlt, if_neg (by omega)]
theorem pkR_low (en : List Nat) (ch : List Int) (n : Nat) (rk : List Int) (hnd : ch.Nodup) : pkR en ch n rk = zT en ch n rk (yG rk (yE en) en.length) ch.length := by
 rw [low_idx en ch n rk _ hnd _ (Nat.le_refl _)]
 unfold pkR
 cases hi : cP ch n with
 |none => rfl
 |some i =>
  have hil := (List.findIdx?_eq_some_iff_getElem.1 hi).1
  simp only [if_pos hil]
theorem runQ_P (p : ProgL) (ch : List Int) (b : Int) (hnd : ch.Nodup) : ∀ n rk s tr tk, (fG p ch b n rk s tr tk).1 = dT p ch b n rk s tr tk
 | 0, _, _, _, _ => rfl
 |n + 1, rk, s, tr, tk => by
  have := codeL_nn p s tr.length b
  unfold fG dT
  by_cases hc : yP p s tr.length b = 0
  ·rw [if_neg (by simp [hc]), if_neg (by omega)]
   rw [runQ_P p ch b hnd n, pkR_low _ _ _ _ hnd]
  ·rw [if_pos hc, if_pos (by omega)]
def qC (x : List Nat × List Nat) : PctL := ⟨yE x.1, yE x.2⟩
theorem aD (x : List Nat × List Nat) : vW (qC x) = wX x := by
 show [D.sl ((yE x.1).map encInt), D.sl ((yE x.2).map encInt)] = [D.sl (x.1.map yA), D.sl (x.2.map yA)]
 rw [qW, qW]
theorem sG : ∀ (f : Nat) (left : List Nat) (i : Nat), (kM f left i).length = f
 | 0, _, _ => rfl
 |f + 1, left, i => by rw [kM, List.length_cons, sG f]
theorem pctN_fit (k d i : Nat) : (qC (uL k d i)).ranks.length = 5 ∧ (qC (uL k d i)).changes.length ≤ 1000 ∧ (qC (uL k d i)).changes.Nodup := by
 refine ⟨by simp [qC, uL, yE, sG], ?_, ?_⟩
 ·simp only [qC, uL, yE]
  split <;> simp
 ·simp only [qC, uL, yE]
  split <;> simp
def Hit (p : ProgL) (sign : List UInt8) (x : List Nat × List Nat) : Prop := fD p (pM p (qC x) 200) = sign
open Classical in
noncomputable def uF (p : ProgL) (sign : List UInt8) (k d : Nat) : Nat → Nat
 | 0 => 0
 |j + 1 => uF p sign k d j + (if Hit p sign (uL k d j) then 1 else 0)
theorem sY (p : ProgL) (sign : List UInt8) (k d : Nat) : ∀ j, uF p sign k d j ≤ j
 | 0 => Nat.le_refl _
 |j + 1 => by
  have := sY p sign k d j
  rw [uF]; split <;> omega
theorem all_of (k d : Nat) (hk : k ≤ 6) (hd : d ≤ 1) : allN k d = (List.range (120 * vO k d)).map (uL k d) := by
 have := List.all_eq_true.1 all_same k (by simp; omega)
 have := List.all_eq_true.1 this d (by simp; omega)
 exact eq_of_beq this
theorem choC_le (k d : Nat) (hk : k ≤ 6) : vO k d ≤ 6 := by unfold vO; split <;> omega
def OkH (p : ProgL) (k d : Int) : Prop := (p.goodS ∧ InR k 0 6) ∧ InR d 0 1
noncomputable def hitsR (p : ProgL) (sign : List UInt8) (k d : Int) : Nat := uF p sign k.toNat d.toNat (120 * vO k.toNat d.toNat)
end Ai
end
section
set_option maxRecDepth 100000
namespace Ai
open Go Go.Proofs Cyc
theorem flatMap_take {α β : Type} (ps : List α) (f : α → List β) : (ps.take ps.length).flatMap f = ps.flatMap f := by rw [List.take_length]
theorem l5All_of (k d : Nat) (hk : k ≤ 6) (hd : d ≤ 1) : CallsTo EE 53 [i64 5, i64 k, i64 d] (· = .uq 70 2 (((List.range (120 * vO k d)).map (uL k d)).map wX)) := by
 have e : xZ (cV k d 0) (wO 5 []) (wO 5 []).length = (List.range (120 * vO k d)).map (uL k d) := by
  unfold xZ
  rw [flatMap_take, ← all_of k d hk hd]; rfl
 rw [← e]
 rcases (show d = 0 ∨ d = 1 by omega) with rfl | rfl
 ·refine l5All_ok k 0 (cV k 0 0) [[.nil]] (eD _ _) rfl (by simp [cV]) (by simp [cV]) ?_
  intro j hj
  have : j = 0 := by simpa [cV] using hj
  subst this
  exact ⟨.nil, rfl, .inr ⟨rfl, rfl⟩⟩
 ·have hc : cV k 1 0 = (List.range k).map fun j => [j] := by
   show ((List.range (k - 0)).flatMap fun j => ([[]] : List (List Nat)).map ((0 + j) :: ·)) = _
   rw [Nat.sub_zero]
   generalize List.range k = l
   induction l with
   |nil => rfl
   |cons a l ih => rw [List.flatMap_cons, ih]; simp
  refine l5All_ok k 1 (cV k 1 0) (qA k) (l5Cho1_ok k (by omega)) (by rw [hc]; simp [qA]) (by rw [hc]; simp; omega) (by rw [hc]; intro c h; simp at h; obtain ⟨a, _, rfl⟩ := h; simp) ?_
  intro j hj
  have hj2 : j < k := by rw [hc] at hj; simpa using hj
  refine ⟨.sl [[di (j : Int)]], by simp [qA, hj2], .inl ?_⟩
  have : (cV k 1 0)[j] = [j] := by simp only [hc]; simp
  rw [this]; rfl
theorem HitsOfS_ok (p : ProgL) (hp : p.wf) (hs : p.rs.length ≤ 1048576 ∧ ∀ x ∈ p.rs, x.length ≤ 1048576) (hv : p.flt) (k d : Int) (sign : List UInt8) :
  CallsTo EE 25 [agg (encProg p), i64 k, i64 d, sv sign] (fun r => (OkH p k d ∧ r = .tup [i64 (hitsR p sign k d : Nat), bv true]) ∨ (¬ OkH p k d ∧ r = .tup [i64 0, bv false])) := by
 refine callsTo_of_AW (fn := Tryz.f25) Tryz.func25 rfl (by kernel_rfl) rfl ?_
 conv => whnf
 refine ocase (mY p hs hv) (fun hg => ?_) (fun hg => ?_)
 rotate_left 1
 ·conv => whnf
  exact .inr ⟨fun e => hg e.1.1, rfl⟩
 conv => whnf
 refine ocase (uT k 0 6) (fun hk => ?_) (fun hk => ?_)
 rotate_left 1
 ·conv => whnf
  exact .inr ⟨fun e => hk e.1.2, rfl⟩
 conv => whnf
 refine ocase (uT d 0 1) (fun hd => ?_) (fun hd => ?_)
 rotate_left 1
 ·conv => whnf
  exact .inr ⟨fun e => hd e.2, rfl⟩
 obtain ⟨kk, rfl⟩ : ∃ kk : Nat, k = (kk : Int) := ⟨k.toNat, by have := hk.1; omega⟩
 obtain ⟨dd, rfl⟩ : ∃ dd : Nat, d = (dd : Int) := ⟨d.toNat, by have := hd.1; omega⟩
 have hk6 : kk ≤ 6 := by have := hk.2; omega
 have hd1 : dd ≤ 1 := by have := hd.2; omega
 have hcl := choC_le kk dd hk6
 have hR : hitsR p sign kk dd = uF p sign kk dd (120 * vO kk dd) := rfl
 rw [hR]
 have hok : OkH p kk dd := ⟨⟨hg, hk⟩, hd⟩
 clear hR
 conv => whnf
 refine ⟨_, l5All_of kk dd hk6 hd1, ?_⟩
 rintro r rfl
 refine .inl ?_
 conv => whnf
 generalize hM : 120 * vO kk dd = M at *
 have hMl : M ≤ 720 := by omega
 refine yF (fun j : Nat => [(3, sv sign), (4, .ptr (.n 4) 0), (10, i64 (uF p sign kk dd j : Nat)), (28, .d (.sl (((List.range M).map (uL kk dd)).map wX))), (29, i64 M), (30, i64 j)]) (fun j => [(.n 4, .vs 31 ((encProg p).map .d))]) (fun j => M - j) (fun j => j ≤ M) 0
  Weak.refl ⟨rfl, rfl, rfl, rfl, ?_, rfl, trivial⟩ ⟨rfl, trivial⟩ (Nat.zero_le _) ?_
 ·exact congrArg (fun x : Nat => i64 (x : Int)) (by simp)
 intro j τ H hj
 have hj : j ≤ M := hj
 have hh := sY p sign kk dd j
 conv => whnf
 refine kbi (fun h => ?_) (fun h => ?_)
 ·have hlt : j < M := by have := of_decide_eq_true h; omega
  obtain ⟨f1, f2, f3⟩ := pctN_fit kk dd j
  have hrun := l5Run_of p hp hg (qC (uL kk dd j)) f1 f2 200 (by unfold InR; omega)
  have hend := aR hg hv (qC (uL kk dd j)) 200 (by omega)
  have hsg := l4Sign_ok p hp hg hv 200 _ hend (by omega)
  rw [aD] at hrun
  have hHit : Hit p sign (uL kk dd j) ↔ fD p (pM p (qC (uL kk dd j)) 200) = sign := Iff.rfl
  have hnx : uF p sign kk dd (j + 1) = uF p sign kk dd j + (open Classical in if Hit p sign (uL kk dd j) then 1 else 0) := rfl
  have hget : (((List.range M).map (uL kk dd)).map wX)[((j : Nat) : Int).toNat]? = some (wX (uL kk dd j)) := by simp [hlt]
  generalize uL kk dd j = x at *
  generalize pM p (qC x) 200 = R at *
  conv => whnf
  refine ⟨wX x, ⟨by omega, hget, rfl⟩, ?_⟩
  conv => whnf
  refine ⟨by kernel_rfl, ?_⟩
  conv => whnf
  refine ⟨_, hrun, ?_⟩
  conv => whnf
  refine ⟨_, hsg, ?_⟩
  conv => whnf
  refine ⟨fun hq => ?_, fun hq => ?_⟩
  ·have hq : fD p R = sign := eq_of_beq hq
   rw [if_pos (hHit.2 hq)] at hnx
   conv => whnf
   refine ⟨j + 1, hlt, by show M - (j + 1) < M - j; omega, ⟨rfl, rfl, ?_, rfl, rfl, zH hlt (by omega), trivial⟩, ⟨rfl, trivial⟩⟩
   show i64 (IntKind.i64.wrap ((uF p sign kk dd j : Nat) + 1)) = i64 (uF p sign kk dd (j + 1) : Nat)
   rw [hnx, zD (by omega) (by omega)]; rfl
  ·have hq : ¬ fD p R = sign := fun e => by rw [e] at hq; simp at hq
   rw [if_neg (fun e => hq (hHit.1 e))] at hnx
   conv => whnf
   refine ⟨j + 1, hlt, by show M - (j + 1) < M - j; omega, ⟨rfl, rfl, ?_, rfl, rfl, zH hlt (by omega), trivial⟩, ⟨rfl, trivial⟩⟩
   show i64 (uF p sign kk dd j : Nat) = i64 (uF p sign kk dd (j + 1) : Nat)
   rw [hnx]; rfl
 ·have hge : j = M := by
   have : ¬ (j : Int) < M := fun e => h (decide_eq_true e)
   omega
  subst hge
  conv => whnf
  exact .inl ⟨hok, rfl⟩
end Ai
end
section
set_option maxRecDepth 100000
namespace Ai
open Go Go.Proofs Cyc
theorem HitsOfI_ok (p : ProgL) (hp : p.wf) (hs : p.rs.length ≤ 1048576 ∧ ∀ x ∈ p.rs, x.length ≤ 1048576) (hv : p.flt) (k d : Int) (sign : List UInt8) :
  CallsTo EE 26 [agg (encProg p), i64 k, i64 d, sv sign] (fun r => (OkH p k d ∧ r = .tup [i64 (hitsR p sign k d : Nat), bv true]) ∨ (¬ OkH p k d ∧ r = .tup [i64 0, bv false])) := by
 refine callsTo_of_AW (fn := Tryz.f26) Tryz.func26 rfl (by kernel_rfl) rfl ?_
 conv => whnf
 refine ocase (GoodProgI_ok p hs) (fun hg => ?_) (fun hg => ?_)
 rotate_left 1
 ·conv => whnf
  exact .inr ⟨fun e => hg ((aO p).1 e.1.1), rfl⟩
 have hg : p.goodS := (aO p).2 hg
 conv => whnf
 refine ocase (in_ok k 0 6) (fun hk => ?_) (fun hk => ?_)
 rotate_left 1
 ·conv => whnf
  exact .inr ⟨fun e => hk e.1.2, rfl⟩
 conv => whnf
 refine ocase (in_ok d 0 1) (fun hd => ?_) (fun hd => ?_)
 rotate_left 1
 ·conv => whnf
  exact .inr ⟨fun e => hd e.2, rfl⟩
 obtain ⟨kk, rfl⟩ : ∃ kk : Nat, k = (kk : Int) := ⟨k.toNat, by have := hk.1; omega⟩
 obtain ⟨dd, rfl⟩ : ∃ dd : Nat, d = (dd : Int) := ⟨d.toNat, by have := hd.1; omega⟩
 have hk6 : kk ≤ 6 := by have := hk.2; omega
 have hd1 : dd ≤ 1 := by have := hd.2; omega
 have hcl := choC_le kk dd hk6
 have hR : hitsR p sign kk dd = uF p sign kk dd (120 * vO kk dd) := rfl
 rw [hR]
 have hok : OkH p kk dd := ⟨⟨hg, hk⟩, hd⟩
 have hat := fun j => pctAt_ok kk dd j hk6 hd1
 clear hR
 conv => whnf
 refine ⟨_, CountPct_ok kk dd (by omega) hd1, ?_⟩
 rintro r rfl
 conv => whnf
 generalize hM : 120 * vO kk dd = M at *
 have hMl : M ≤ 720 := by omega
 refine yF (fun j : Nat => [(1, i64 kk), (2, i64 dd), (3, sv sign), (4, .ptr (.n 4) 0), (12, i64 (uF p sign kk dd j : Nat)), (33, i64 M), (34, i64 j)]) (fun j => [(.n 4, .vs 31 ((encProg p).map .d))]) (fun j => M - j) (fun j => j ≤ M) 0
  Weak.refl ⟨rfl, rfl, rfl, rfl, rfl, rfl, rfl, trivial⟩ ⟨rfl, trivial⟩ (Nat.zero_le _) ?_
 intro j τ H hj
 have hj : j ≤ M := hj
 have hh := sY p sign kk dd j
 conv => whnf
 refine kbi (fun h => ?_) (fun h => ?_)
 ·have hlt : j < M := by have := of_decide_eq_true h; omega
  obtain ⟨f1, f2, f3⟩ := pctN_fit kk dd j
  have hat := hat j hlt
  have hrun := runPct_ok p hp hg hv 200 (by unfold InR; omega) (qC (uL kk dd j)) f1 f2
  rw [runQ_P p _ 200 f3] at hrun
  have hrun : CallsTo EE 60 [agg (encProg p), agg (vW (qC (uL kk dd j))), i64 200] (· = agg (dM (pM p (qC (uL kk dd j)) 200))) := hrun
  have hend := aR hg hv (qC (uL kk dd j)) 200 (by omega)
  have hsg := signOf_ok p hp hg 200 _ hend (by omega)
  rw [aD] at hrun
  have hHit : Hit p sign (uL kk dd j) ↔ fD p (pM p (qC (uL kk dd j)) 200) = sign := Iff.rfl
  have hnx : uF p sign kk dd (j + 1) = uF p sign kk dd j + (open Classical in if Hit p sign (uL kk dd j) then 1 else 0) := rfl
  generalize uL kk dd j = x at *
  generalize pM p (qC x) 200 = R at *
  conv => whnf
  refine ⟨by kernel_rfl, ?_⟩
  conv => whnf
  refine ⟨_, hat, ?_⟩
  conv => whnf
  refine ⟨_, hrun, ?_⟩
  conv => whnf
  refine ⟨_, hsg, ?_⟩
  conv => whnf
  refine ⟨fun hq => ?_, fun hq => ?_⟩
  ·have hq : fD p R = sign := eq_of_beq hq
   rw [if_pos (hHit.2 hq)] at hnx
   conv => whnf
   refine ⟨_, vY true, ?_⟩
   conv => whnf
   refine ⟨j + 1, hlt, by show M - (j + 1) < M - j; omega, ⟨rfl, rfl, rfl, rfl, ?_, rfl, zH hlt (by omega), trivial⟩, ⟨rfl, trivial⟩⟩
   show i64 (IntKind.i64.wrap ((uF p sign kk dd j : Nat) + 1)) = i64 (uF p sign kk dd (j + 1) : Nat)
   rw [hnx, zD (by omega) (by omega)]; rfl
  ·have hq : ¬ fD p R = sign := fun e => by rw [e] at hq; simp at hq
   rw [if_neg (fun e => hq (hHit.1 e))] at hnx
   conv => whnf
   refine ⟨_, vY false, ?_⟩
   conv => whnf
   refine ⟨j + 1, hlt, by show M - (j + 1) < M - j; omega, ⟨rfl, rfl, rfl, rfl, ?_, rfl, zH hlt (by omega), trivial⟩, ⟨rfl, trivial⟩⟩
   show i64 (IntKind.i64.wrap ((uF p sign kk dd j : Nat) + 0)) = i64 (uF p sign kk dd (j + 1) : Nat)
   rw [hnx, zD (by omega) (by omega)]; rfl
 ·have hge : j = M := by
   have : ¬ (j : Int) < M := fun e => h (decide_eq_true e)
   omega
  subst hge
  conv => whnf
  exact .inl ⟨hok, rfl⟩
end Ai
end
section
set_option maxRecDepth 100000
namespace Ai
open Go Go.Proofs Cyc
theorem gY {E : Env} {g : FuncId} {xs : List AV} {R R' : AV → Prop} (h : CallsTo E g xs R) (hp : ∀ r, R r → R' r) : CallsTo E g xs R' := by
 intro w A vs hI hA
 have := h w A vs hI hA
 unfold Invokes at this ⊢
 split at this
 ·exact Calls.mono this fun e w' ⟨v, he, r, hr, hb, hq⟩ => ⟨v, he, r, hp r hr, hb, hq⟩
 ·obtain ⟨r, hr, hb, hq⟩ := this
  exact ⟨r, hp r hr, hb, hq⟩
 ·exact this
theorem lawHitsOf (p : ProgL) (hp : p.wf) (hv : p.flt) (k d : Int) (sign : List UInt8) (hsl : sign.length ≤ 9223372036854775807) : CallsTo EE 6 [agg (encProg p), i64 k, i64 d, sv sign] (· = bv true) := by
 refine callsTo_of_AW (fn := Tryz.f6) Tryz.func6 rfl (by kernel_rfl) rfl ?_
 conv => whnf
 refine kbi (fun _ => ?_) (fun h1 => ?_)
 ·conv => whnf
  try rfl
 conv => whnf
 refine ⟨_, szProg_ok p 1048576 (by omega) (by omega) hp, ?_⟩
 rintro r ⟨n, rfl, hn1, hn2, hn3⟩
 conv => whnf
 refine kbi (fun _ => ?_) (fun h => ?_)
 ·conv => whnf
  try rfl
 have hsz : p.size ≤ 1048576 := by
  have := hn3 (by simp at h; omega)
  simp at h
  omega
 have hs := size_le List.length p.rs 1048576 hsz
 have cS := HitsOfS_ok p hp hs hv k d sign
 have cI := HitsOfI_ok p hp hs hv k d sign
 obtain ⟨c, b, cS, cI⟩ : ∃ (c : Int) (b : Bool), CallsTo EE 25 [agg (encProg p), i64 k, i64 d, sv sign] (· = .tup [i64 c, bv b]) ∧ CallsTo EE 26 [agg (encProg p), i64 k, i64 d, sv sign] (· = .tup [i64 c, bv b]) := by
  by_cases h : OkH p k d
  ·refine ⟨(hitsR p sign k d : Nat), true, ?_, ?_⟩
   ·exact gY cS fun r hr => hr.elim (·.2) fun e => absurd h e.1
   ·exact gY cI fun r hr => hr.elim (·.2) fun e => absurd h e.1
  ·refine ⟨0, false, ?_, ?_⟩
   ·exact gY cS fun r hr => hr.elim (fun e => absurd e.1 h) (·.2)
   ·exact gY cI fun r hr => hr.elim (fun e => absurd e.1 h) (·.2)
 conv => whnf
 refine ⟨_, nB p hs, ?_⟩
 rintro r rfl
 conv => whnf
 refine ⟨_, cS, ?_⟩
 rintro r rfl
 conv => whnf
 refine ⟨_, nB p hs, ?_⟩
 rintro r rfl
 conv => whnf
 refine ⟨_, cI, ?_⟩
 rintro r rfl
 conv => whnf
 refine kbi (fun h => absurd h (by simp)) (fun _ => ?_)
 conv => whnf
 cases b
 all_goals
  conv => whnf
  refine kbi (fun h => absurd h (by simp)) (fun _ => ?_)
  conv => whnf
  refine ⟨by kernel_rfl, ?_⟩
  conv => whnf
  refine ⟨_, nB p hs, ?_⟩
  conv => whnf
  refine ⟨_, eqProg_ok p hs, ?_⟩
  conv => whnf
  try rfl
end Ai
end
