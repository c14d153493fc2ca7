import Derived.Test.YtjkogkjhhjioeaaGreatDoorZB
import Derived.Scope
import Derived.Test.YtjkogkjhhjioeaaGreatDoorProg
import Derived.Lib.LaidTab
import Derived.Shelf.Strconv.Itoa3
import Derived.IntWalk
import Derived.Lib.Join
import Derived.Shelf.Slices.Clone
import Derived.Shelf.Slices.Delete
import Derived.Ground.Names2Prog
import Derived.WalkKit
import Derived.ChangeArms
import Derived.Deep.Slices
set_option maxHeartbeats 8000000
set_option linter.unusedVariables false
set_option linter.unusedSimpArgs false
section
namespace Ai
open Go Go.RowKit
section
variable {E : Env} {N : Nat} {A : Fr} {w0 w w' : World} {m m' : Own} {s s' : St} {a : Act} {dst : Option Tmp}
def qO (N : Nat) (op : Op) (s s' : St) : Prop := (∀ x ∈ op.operands, ev N s' x = ev N s x) ∧ ∀ κ, cls κ ∈ yG (evs N s op.operands) → s'.H κ = s.H κ
theorem wU {xs : Array Operand} {x : Operand} (hx : x ∈ xs) {c : Nat} (hc : c ∈ zK (ev N s x)) : c ∈ yG (evs N s xs) :=
 xC.2 ⟨_, List.mem_map.2 ⟨x, by simpa using hx, rfl⟩, hc⟩
def eff (v : AV) (O : Key → Option Ob) (d2 dst : Option Tmp) (s : St) : St := put dst v (put d2 .junk (over O s))
def AOpX (E : Env) (N : Nat) (op : Op) (dst : Option Tmp) (s : St) (K : St → Prop) : Prop := ∃ K1 : St → Prop, AOp E N op dst s K1 ∧ ∀ s1, K1 s1 → ∃ s2, Weak E N s1 s2 ∧ K s2
theorem AOpX.of {op : Op} {K : St → Prop} (h : AOp E N op dst s K) : AOpX E N op dst s K := ⟨K, h, fun s1 h1 => ⟨s1, fun A w0 m a w hS => ⟨m, hS⟩, h1⟩⟩
def Pkc (E : Env) (N : Nat) (op : Op) (dst : Option Tmp) (s : St) (v : AV) (O : Key → Option Ob) (wr fr vk : List Nat) : Prop :=
 (∀ κ, O κ ≠ none → cls κ ∈ wr) ∧ ∀ s', qO N op s s' → (∀ c ∈ fr, NoK c s') → (∀ d, wH op = some d → Only (3 * d) d s') →
  (∀ K : St → Prop, K (eff v O (wH op) dst s') → AOpX E N op dst s' K) ∧ (∀ c, c ∉ vk → NoK c s' → NoK c (eff v O (wH op) dst s')) ∧
  (∀ c d, c ∉ vk → Only c d s' → Only c d (eff v O (wH op) dst s')) ∧ (∀ d, dst = some d → Only (3 * d) d s' → Only (3 * d) d (eff v O (wH op) dst s'))
theorem nY {op : Op} {v : AV} {O : Key → Option Ob} {wr fr vk : List Nat} (hj : wH op = none) (h1 : ∀ κ, O κ ≠ none → cls κ ∈ wr) (hv : ∀ d, dst = some d → ∀ c ∈ zK v, c ∈ vk)
  (hob : ∀ s', qO N op s s' → ∀ c, c ∉ vk → (∀ κ ob, s'.H κ = some ob → c ∉ yL ob) → ∀ κ ob, O κ = some ob → c ∉ yL ob) (hO : ∀ s', qO N op s s' → ∀ c, c ∉ vk → NoK c s' → ∀ κ, O κ ≠ none → cls κ ≠ c)
  (hd : ∀ s', qO N op s s' → ∀ d, dst = some d → (∀ κ ob, s'.H κ = some ob → 3 * d ∉ yL ob) → ∀ κ ob, O κ = some ob → 3 * d ∉ yL ob)
  (hop : ∀ s', qO N op s s' → (∀ c ∈ fr, NoK c s') → ∀ K : St → Prop, K (put dst v (over O s')) → AOp E N op dst s' K) : Pkc E N op dst s v O wr fr vk := by
 refine ⟨h1, fun s' hA hf _ => ?_⟩
 rw [hj]
 refine ⟨fun K hK => .of (hop s' hA hf K hK), fun c hc hn => ?_, fun c d hc hn => ?_, fun d hdd hn => ?_⟩
 ·exact (hn.over (hO s' hA c hc hn) (hob s' hA c hc hn.obj)).put _ fun d hd hm => hc (hv d hd c hm)
 ·exact (hn.over (hob s' hA c hc hn.obj)).put _ fun e he _ hm => hc (hv e he c hm)
 ·exact (hn.over (hd s' hA d hdd hn.obj)).put _ fun e he hne => absurd (by rw [hdd] at he; injection he with he; exact he.symm) hne
theorem n7 (v : AV) (O : Key → Option Ob) (dst : Option Tmp) (s : St) : eff v O none dst s = put dst v (over O s) := rfl
theorem pA {c : Nat} : ∀ κ ob, (fun _ => none : Key → Option Ob) κ = some ob → c ∉ yL ob := fun κ ob h => by cases h
theorem wC {op : Op} {k : KE} (hj : wH op = none) (G : Option Tmp → St → (St → Prop) → Prop) (kz : List Nat) (hl : bG G kz s) (hz : ∀ c ∈ kz, c ∈ yG (evs N s op.operands)) (h : G dst s (uV dst k))
  (hop : ∀ s', qO N op s s' → ∀ K, G dst s' K → AOp E N op dst s' K) : ∃ v O wr fr vk, k wr fr vk (eff v O (wH op) dst s) ∧ Pkc E N op dst s v O wr fr vk := by
 obtain ⟨v, h1, h2⟩ := hl dst _ h
 refine ⟨v, fun _ => none, _, _, _, by rw [hj]; exact h1, nY hj (fun κ hk => absurd rfl hk) (fun d hd c hc => ?_) (fun _ _ _ _ _ => pA) (fun _ _ _ _ _ κ hk => absurd rfl hk) (fun _ _ _ _ _ => pA) (fun s' hA _ K hK => hop s' hA K (h2 s' (fun κ hk => hA.2 κ (hz _ hk)) dst K hK))⟩
 subst hd
 simpa [vkOf, put, nbeq_self] using hc
theorem qX {op : Op} {k : KE} {v : AV} (hj : wH op = none) (h : k [] [] (zK v) (put dst v s)) (hop : ∀ s', qO N op s s' → ∀ K : St → Prop, K (put dst v s') → AOp E N op dst s' K) :
  ∃ v O wr fr vk, k wr fr vk (eff v O (wH op) dst s) ∧ Pkc E N op dst s v O wr fr vk :=
 ⟨v, fun _ => none, _, _, _, by rw [hj]; exact h, nY hj (fun κ hk => absurd rfl hk) (fun _ _ c hc => hc) (fun _ _ _ _ _ => pA) (fun _ _ _ _ _ κ hk => absurd rfl hk) (fun _ _ _ _ _ => pA) (fun s' hA _ K hK => hop s' hA K hK)⟩
theorem kR : ∀ (l : List AV) (b i : Nat) (v : AV), l[i]? = some v → ∀ c ∈ (match v with
  | .uq .. => [3 * (b + i)]
  | .uqd .. => [3 * (b + i), 3 * (b + i) + 1]
  | _ => ([] : List Nat)), c ∈ fC b l
 | [], b, i, v, h, c, hc => by simp at h
 |x :: xs, b, 0, v, h, c, hc => by
  simp at h; subst h
  simp only [fC, List.mem_append]
  left
  cases x <;> first | (simp at hc; done) | simpa using hc
 |x :: xs, b, i + 1, v, h, c, hc => by
  simp only [fC, List.mem_append]
  right
  refine kR xs (b + 1) i v (by simpa using h) c ?_
  rw [show b + 1 + i = b + (i + 1) from by omega]; exact hc
theorem iQ {cs : List AV} {κ : Key} (h : ownH cs κ ≠ none) : cls κ ∈ fC 900 cs := by
 cases κ with
 |n kk =>
  simp only [ownH] at h
  cases hlt : Nat.blt kk 900 with
  |true => rw [hlt] at h; exact absurd rfl h
  |false =>
   rw [hlt] at h
   simp only [cond_false] at h
   have hge : 900 ≤ kk := by
    rcases Nat.lt_or_ge kk 900 with h1 | h1
    ·have : Nat.blt kk 900 = true := by simpa [Nat.blt_eq] using h1
     rw [this] at hlt; cases hlt
    ·exact h1
   split at h
   ·rename_i hc
    exact kR cs 900 (kk - 900) _ hc _ (by simp [cls]; omega)
   ·rename_i hc
    exact kR cs 900 (kk - 900) _ hc _ (by simp [cls]; omega)
   ·exact absurd rfl h
 |s o j =>
  simp only [ownH] at h
  cases hlt : Nat.blt o 900 with
  |true => rw [hlt] at h; exact absurd rfl h
  |false =>
   rw [hlt] at h
   simp only [cond_false] at h
   have hge : 900 ≤ o := by
    rcases Nat.lt_or_ge o 900 with h1 | h1
    ·have : Nat.blt o 900 = true := by simpa [Nat.blt_eq] using h1
     rw [this] at hlt; cases hlt
    ·exact h1
   split at h
   ·rename_i hc
    exact kR cs 900 (o - 900) _ hc _ (by simp [cls]; omega)
   ·exact absurd rfl h
 |l n => exact absurd rfl h
theorem ownH_keys {cs : List AV} {κ : Key} {ob : Ob} (h : ownH cs κ = some ob) : ∀ c ∈ yL ob, c ∈ fC 900 cs := by
 cases κ with
 |n kk =>
  simp only [ownH] at h
  cases hlt : Nat.blt kk 900 with
  |true => rw [hlt] at h; cases h
  |false =>
   rw [hlt] at h
   simp only [cond_false] at h
   have hge : 900 ≤ kk := by
    rcases Nat.lt_or_ge kk 900 with h1 | h1
    ·have : Nat.blt kk 900 = true := by simpa [Nat.blt_eq] using h1
     rw [this] at hlt; cases hlt
    ·exact h1
   split at h
   ·injection h with h; subst h; intro c hc; simp [yL] at hc
   ·rename_i hcs
    injection h with h; subst h
    intro c hc
    simp only [yL, List.mem_flatMap] at hc
    obtain ⟨row, hr, hc⟩ := hc
    obtain ⟨v, hv, hc⟩ := xC.1 hc
    obtain ⟨j, hj⟩ := List.getElem?_of_mem hr
    simp only [ownRows, List.getElem?_mapIdx, Option.map_eq_some_iff] at hj
    obtain ⟨row0, _, rfl⟩ := hj
    rcases List.mem_or_eq_of_mem_set hv with hv | rfl
    ·obtain ⟨x, _, rfl⟩ := List.mem_map.1 hv
     simp [zK] at hc
    ·simp only [zK, List.mem_singleton] at hc
     subst hc
     exact kR cs 900 (kk - 900) _ hcs _ (by simp [cls]; omega)
   ·cases h
 |s o j =>
  simp only [ownH] at h
  cases hlt : Nat.blt o 900 with
  |true => rw [hlt] at h; cases h
  |false =>
   rw [hlt] at h
   simp only [cond_false] at h
   split at h
   ·obtain ⟨q, _, rfl⟩ := Option.map_eq_some_iff.1 h
    intro c hc; simp [yL] at hc
   ·cases h
 |l n => cases h
theorem aH : ∀ (l : List AV) (b : Nat), ∀ c ∈ yG (ownR1 b l), c ∈ fC b l ++ yG l
 | [], b, c, hc => by simp [ownR1, yG] at hc
 |v :: vs, b, c, hc => by
  simp only [ownR1, yG, List.mem_append] at hc
  simp only [fC, yG, List.mem_append]
  rcases hc with hc | hc
  ·cases v <;> first | (simp only [zK, List.mem_singleton] at hc; subst hc; left; left; simp [cls]; done) | (right; left; exact hc)
  ·have := aH vs (b + 1) c hc
   simp only [List.mem_append] at this
   rcases this with h | h
   ·exact .inl (.inr h)
   ·exact .inr (.inr h)
theorem wrap_keys : ∀ (f : Nat) {l : List AV} {c : Nat}, c ∈ zK (jT f l) → c ∈ yG l
 | 0, l, c, h => h
 | 1, l, c, h => by
  match l, h with
  | [], h => exact h
  | [x], h => exact List.mem_append_left _ h
  |x :: y :: l, h => exact h
 |k + 2, l, c, h => by
  simp only [jT, zK, yG, List.mem_append] at h
  rcases h with h | h
  ·obtain ⟨v, hv, hc⟩ := xC.1 h
   exact xC.2 ⟨v, List.mem_of_mem_take hv, hc⟩
  ·obtain ⟨v, hv, hc⟩ := xC.1 h
   exact xC.2 ⟨v, List.mem_of_mem_drop hv, hc⟩
theorem s9 {cs : List AV} (h : ∀ c ∈ fC 900 cs, NoK c s) : s.addOwn cs = over (ownH cs) s := by
 have hp : ∀ κ, (ownH cs κ).isSome = true → NoK (cls κ) s := fun κ hk => h _ (iQ (by intro e; rw [e] at hk; cases hk))
 cases s with
 |mk τ H =>
  simp only [St.addOwn, over, St.mk.injEq]
  constructor
  ·funext i
   exact rT _ fun κ hk hm => (hp κ hk).tmp i hm
  ·funext κ
   cases hq : ownH cs κ with
   |some ob => rfl
   |none =>
    simp only
    cases ho : H κ with
    |none => rfl
    |some ob =>
     simp only [Option.map_some, Option.some.injEq]
     exact lE ob fun κ' hk hm => (hp κ' hk).obj κ ob ho hm
theorem ret_inv {op : Op} {k : KE} {r : AV} (hj : wH op = none) (h : retE dst s k r) : ∃ v O wr fr vk, k wr fr vk (eff v O (wH op) dst s) ∧
  ((∀ s', qO N op s s' → (∀ c ∈ fr, NoK c s') → ∀ K : St → Prop, cE dst s' K r → AOp E N op dst s' K) → Pkc E N op dst s v O wr fr vk) := by
 have plain : ∀ r : AV, (∀ s' (K : St → Prop), K (put dst r s') → cE dst s' K r) → k [] [] (zK r) (put dst r s) → ∃ v O wr fr vk, k wr fr vk (eff v O (wH op) dst s) ∧
   ((∀ s', qO N op s s' → (∀ c ∈ fr, NoK c s') → ∀ K : St → Prop, cE dst s' K r → AOp E N op dst s' K) → Pkc E N op dst s v O wr fr vk) :=
  fun r h1 h2 => ⟨r, fun _ => none, _, _, _, by rw [hj]; exact h2, fun hop => nY hj (fun κ hk => absurd rfl hk) (fun _ _ c hc => hc) (fun _ _ _ _ _ => pA) (fun _ _ _ _ _ κ hk => absurd rfl hk) (fun _ _ _ _ _ => pA) (fun s' hA hf K hK => hop s' hA hf K (h1 s' K hK))⟩
 cases r with
 |uq e sz els =>
  rcases h with h | ⟨t, rfl, h⟩
  ·exact ⟨_, fun _ => none, _, _, _, by rw [hj]; exact h, fun hop => nY hj (fun κ hk => absurd rfl hk) (fun _ _ c hc => by simp [zK] at hc) (fun _ _ _ _ _ => pA) (fun _ _ _ _ _ κ hk => absurd rfl hk) (fun _ _ _ _ _ => pA) (fun s' hA hf K hK => hop s' hA hf K (.inl hK))⟩
  ·have hds : ∀ c κ ob, one (.n t) (.ds e sz els) κ = some ob → c ∉ yL ob := fun c κ ob ho => by
    have := qQ (κ := .n t) (by rw [ho]; simp)
    subst this
    simp [one, zD] at ho; subst ho; simp [yL]
   refine ⟨_, _, _, _, _, by rw [hj]; exact h, fun hop => nY hj (fun κ hk => by rw [qQ hk]; simp [cls]) (fun _ _ c hc => by simpa [zK, cls] using hc) (fun _ _ c _ _ => hds c) (fun _ _ c hc _ κ hk => ?_) (fun _ _ d _ _ => hds _) (fun s' hA hf K hK => hop s' hA hf K (.inr ⟨t, rfl, ?_⟩))⟩
   ·rw [qQ hk]; exact fun e => hc (by simp [← e, cls])
   ·rw [f5 (hf _ (by simp [cls])) (by simp [yL])]; exact hK
 |ownF f cs =>
  refine ⟨ownR f cs, ownH cs, _, _, _, by rw [hj]; exact h, fun hop => nY hj (fun κ hk => iQ hk) (fun _ _ c hc => aH cs 900 c (wrap_keys f hc)) (fun _ _ c hc _ κ ob ho hm => hc (List.mem_append_left _ (ownH_keys ho c hm))) (fun _ _ c hc _ κ hk he => hc (List.mem_append_left _ (he ▸ iQ hk))) (fun _ _ d _ _ κ ob ho hm => ?_) (fun s' hA hf K hK => hop s' hA hf K ?_)⟩
  ·-- names of rows within rows are of another class
   have : ∀ (κ : Key) (ob : Ob), ownH cs κ = some ob → ∀ c ∈ yL ob, c % 3 = 1 := by
    intro κ ob ho c hc
    cases κ with
    |n kk =>
     simp only [ownH] at ho
     cases hlt : Nat.blt kk 900 with
     |true => rw [hlt] at ho; cases ho
     |false =>
      rw [hlt] at ho
      simp only [cond_false] at ho
      split at ho
      ·injection ho with ho; subst ho; simp [yL] at hc
      ·injection ho with ho; subst ho
       simp only [yL, List.mem_flatMap] at hc
       obtain ⟨row, hr, hc⟩ := hc
       obtain ⟨v, hv, hc⟩ := xC.1 hc
       obtain ⟨j, hj⟩ := List.getElem?_of_mem hr
       simp only [ownRows, List.getElem?_mapIdx, Option.map_eq_some_iff] at hj
       obtain ⟨row0, _, rfl⟩ := hj
       rcases List.mem_or_eq_of_mem_set hv with hv | rfl
       ·obtain ⟨x, _, rfl⟩ := List.mem_map.1 hv
        simp [zK] at hc
       ·simp only [zK, List.mem_singleton] at hc
        subst hc
        simp [cls]
      ·cases ho
    |s o j =>
     simp only [ownH] at ho
     cases hlt : Nat.blt o 900 with
     |true => rw [hlt] at ho; cases ho
     |false =>
      rw [hlt] at ho
      simp only [cond_false] at ho
      split at ho
      ·obtain ⟨q, _, rfl⟩ := Option.map_eq_some_iff.1 ho
       simp [yL] at hc
      ·cases ho
    |l n => cases ho
   have := this κ ob ho _ hm
   omega
  ·show K (put dst (ownR f cs) (s'.addOwn cs))
   rw [s9 fun c hc => hf c hc]; exact hK
 | _ => exact plain _ (fun _ _ h => h) h
theorem oS {x : AV} {cs : List AV} (h : cellsOf x = some cs) : yG cs = zK x := by
 cases x with
 |agg cs0 =>
  simp only [cellsOf] at h
  cases hb : cs0.all yN with
  |false => rw [hb] at h; cases h
  |true => rw [hb] at h; simp only [cond_true, Option.some.injEq] at h; subst h; rfl
 |junk => simp [cellsOf, yN] at h
 |tup vs => simp [cellsOf, yN] at h
 |uq e sz els => simp [cellsOf, yN] at h
 |uqd e sz c e2 sz2 rows subs => simp [cellsOf, yN] at h
 |ownF f cs => simp [cellsOf, yN] at h
 | _ => simp only [cellsOf, yN, cond_true, Option.some.injEq] at h; subst h; simp [yG]
theorem dK {α : Type} : ∀ (cs : List α) (off : Nat) (xs : List α) (x : α), x ∈ zZ cs off xs → x ∈ cs ∨ x ∈ xs
 |cs, 0, xs, x, h => by
  have e : zZ cs 0 xs = xs ++ cs.drop xs.length := by cases cs <;> rfl
  rw [e, List.mem_append] at h
  rcases h with h | h
  ·exact .inr h
  ·exact .inl (List.mem_of_mem_drop h)
 |c :: cs, off + 1, xs, x, h => by
  simp only [zZ, List.mem_cons] at h
  rcases h with rfl | h
  ·simp
  ·rcases dK cs off xs x h with h | h
   ·exact .inl (List.mem_cons_of_mem _ h)
   ·exact .inr h
 | [], off + 1, xs, x, h => by simp [zZ] at h
theorem setElR_mem {rows : List (List AV)} {sz j off : Nat} {xs r : List AV} (h : r ∈ xP rows sz j off xs) : ∀ x ∈ r, (∃ r0 ∈ rows, x ∈ r0) ∨ x ∈ xs := by
 intro x hx
 unfold xP at h
 cases hb : (Nat.beq off 0 && Nat.beq xs.length sz) with
 |true =>
  rw [hb] at h
  rcases List.mem_or_eq_of_mem_set h with h | rfl
  ·exact .inl ⟨r, h, hx⟩
  ·exact .inr hx
 |false =>
  rw [hb] at h
  simp only [cond_false] at h
  obtain ⟨i, hi⟩ := List.getElem?_of_mem h
  rw [List.getElem?_modify] at hi
  obtain ⟨r0, hr0, he⟩ := Option.map_eq_some_iff.1 hi
  split at he
  ·subst he
   rcases dK _ _ _ _ hx with h1 | h1
   ·exact .inl ⟨r0, List.mem_of_getElem? hr0, h1⟩
   ·exact .inr h1
  ·subst he; exact .inl ⟨_, List.mem_of_getElem? hr0, hx⟩
theorem store_inv {k : KE} {T : TypeId} {ad x : Operand} (h : gX E T (ev N s ad) (ev N s x) none s (k (zK (ev N s ad)) [] (zK (ev N s x)))) :
  ∃ v O wr fr vk, k wr fr vk (eff v O (wH (.store T ad x)) none s) ∧ Pkc E N (.store T ad x) none s v O wr fr vk := by
 have had : ∀ s', qO N (.store T ad x) s s' → ev N s' ad = ev N s ad ∧ ev N s' x = ev N s x := fun s' hA => ⟨hA.1 ad (by simp [Op.operands]), hA.1 x (by simp [Op.operands])⟩
 have hkey : ∀ c ∈ zK (ev N s ad), c ∈ yG (evs N s (Op.store T ad x).operands) := fun c hc => wU (by simp [Op.operands]) hc
 have fin : ∀ (o : Key) (ob ob' : Ob), s.H o = some ob → cls o ∈ zK (ev N s ad) → k (zK (ev N s ad)) [] (zK (ev N s x)) (put none xK (s.setH o ob')) →
   (∀ s', qO N (.store T ad x) s s' → s'.H o = some ob → ∀ K : St → Prop, K (put none xK (s'.setH o ob')) → AOp E N (.store T ad x) none s' K) →
   (∀ c ∈ yL ob', c ∈ yL ob ∨ c ∈ zK (ev N s x)) → ∃ v O wr fr vk, k wr fr vk (eff v O (wH (.store T ad x)) none s) ∧ Pkc E N (.store T ad x) none s v O wr fr vk := by
  intro o ob ob' hO hcl hk hop hko
  have hO' : ∀ s', qO N (.store T ad x) s s' → s'.H o = some ob := fun s' hA => (hA.2 o (hkey _ hcl)).trans hO
  have hobs : ∀ s', qO N (.store T ad x) s s' → ∀ c, c ∉ zK (ev N s x) → (∀ κ ob, s'.H κ = some ob → c ∉ yL ob) → ∀ κ ob2, one o ob' κ = some ob2 → c ∉ yL ob2 := by
   intro s' hA c hc hn κ ob2 ho2 hm
   have := qQ (κ := o) (by rw [ho2]; simp)
   subst this
   simp [one, zD] at ho2; subst ho2
   rcases hko c hm with h1 | h1
   ·exact hn κ ob (hO' s' hA) h1
   ·exact hc h1
  refine ⟨xK, one o ob', zK (ev N s ad), [], zK (ev N s x), by show k _ _ _ (put none xK (over (one o ob') s)); rw [← mS]; exact hk, nY rfl (fun κ hκ => by rw [qQ hκ]; exact hcl) (fun d hd => by cases hd) hobs (fun s' hA c hc hn κ hκ he => ?_) (fun _ _ d hd => by cases hd) (fun s' hA _ K hK => hop s' hA (hO' s' hA) K (by rw [mS]; exact hK))⟩
  rw [qQ hκ] at he
  have := hn.none o he
  rw [hO' s' hA] at this; cases this
 unfold gX at h
 split at h
 ·rename_i ti cs hti hcs
  have hck := oS hcs
  cases hb : Nat.beq cs.length ti.sz with
  |false => rw [hb] at h; exact h.elim
  |true =>
   rw [hb] at h
   simp only [cond_true] at h
   split at h
   ·rename_i o off had0
    split at h
    ·rename_i e cs0 hO
     cases hb2 : Nat.ble (off + cs.length) cs0.length with
     |false => rw [hb2] at h; exact h.elim
     |true =>
      rw [hb2] at h
      simp only [cond_true] at h
      refine fin o _ _ hO (by rw [had0]; simp [zK]) h (fun s' hA hO' K hK => ?_) (fun c hc => ?_)
      ·obtain ⟨e1, e2⟩ := had s' hA
       simp only [AOp, gX, e1, e2, had0, hti, hcs, hb, hO', hb2, cond_true]
       exact hK
      ·simp only [yL] at hc ⊢
       obtain ⟨v, hv, hcv⟩ := xC.1 hc
       rcases dK _ _ _ _ hv with h1 | h1
       ·exact .inl (xC.2 ⟨v, h1, hcv⟩)
       ·exact .inr (by rw [← hck]; exact xC.2 ⟨v, h1, hcv⟩)
    ·exact h.elim
   ·rename_i o j off had0
    split at h
    ·rename_i e sz els xs hO hxs
     cases hb2 : Nat.ble (off + xs.length) sz with
     |false => rw [hb2] at h; exact h.elim
     |true =>
      rw [hb2] at h
      simp only [cond_true] at h
      refine fin o _ _ hO (by rw [had0]; simp [zK]) h (fun s' hA hO' K hK => ?_) (fun c hc => by simp [yL] at hc)
      obtain ⟨e1, e2⟩ := had s' hA
      simp only [AOp, gX, e1, e2, had0, hti, hcs, hb, hO', hxs, hb2, cond_true]
      exact hK
    ·exact h.elim
   ·rename_i o j off had0
    split at h
    ·rename_i e sz rows hO
     cases hb2 : Nat.ble (off + cs.length) sz with
     |false => rw [hb2] at h; exact h.elim
     |true =>
      rw [hb2] at h
      simp only [cond_true] at h
      refine fin o _ _ hO (by rw [had0]; simp [zK]) h (fun s' hA hO' K hK => ?_) (fun c hc => ?_)
      ·obtain ⟨e1, e2⟩ := had s' hA
       simp only [AOp, gX, e1, e2, had0, hti, hcs, hb, hO', hb2, cond_true]
       exact hK
      ·simp only [yL, List.mem_flatMap] at hc ⊢
       obtain ⟨r, hr, hcr⟩ := hc
       obtain ⟨v, hv, hcv⟩ := xC.1 hcr
       rcases setElR_mem hr v hv with ⟨r0, h0, h1⟩ | h1
       ·exact .inl ⟨r0, h0, xC.2 ⟨v, h1, hcv⟩⟩
       ·exact .inr (by rw [← hck]; exact xC.2 ⟨v, h1, hcv⟩)
    ·exact h.elim
   ·exact h.elim
 ·exact h.elim
theorem bU {op : Op} {k : KE} {t : Tmp} {v : AV} {ob : Ob} {vk : List Nat} (hj : wH op = none) (h : k [3 * t] [3 * t] vk (put (some t) v (over (one t ob) s))) (hv : ∀ c ∈ zK v, c ∈ vk) (ht : 3 * t ∈ vk) (hob : ∀ c ∈ yL ob, c ∈ vk ∧ c ≠ 3 * t)
  (hop : ∀ s', qO N op s s' → ∀ K : St → Prop, K (put (some t) v (s'.new t ob)) → AOp E N op (some t) s' K) : ∃ v O wr fr vk, k wr fr vk (eff v O (wH op) (some t) s) ∧ Pkc E N op (some t) s v O wr fr vk := by
 have hone : ∀ κ ob', one (.n t) ob κ = some ob' → ob' = ob := fun κ ob' ho => by
  have := qQ (κ := .n t) (by rw [ho]; simp)
  subst this
  simp [one, zD] at ho; exact ho.symm
 refine ⟨_, _, _, _, _, by rw [hj]; exact h, nY hj (fun κ hk => by rw [qQ hk]; simp [cls]) (fun _ _ c hc => hv c hc) (fun _ _ c hc _ κ ob' ho hm => hc (hob c (hone κ ob' ho ▸ hm)).1) (fun _ _ c hc _ κ hk he => ?_) (fun _ _ d hd _ κ ob' ho hm => ?_) (fun s' hA hf K hK => hop s' hA K ?_)⟩
 ·rw [qQ hk] at he; exact hc (he ▸ ht)
 ·injection hd with hd; subst hd
  exact (hob _ (hone κ ob' ho ▸ hm)).2 rfl
 ·rw [f5 (hf _ (by simp [cls])) (fun hm => (hob _ hm).2 rfl)]; exact hK
theorem append_inv {c : Call} {k : KE} (hc : c.callee = .builtin .append) (h : aE E N (.call c) dst s k) : ∃ v O wr fr vk, k wr fr vk (eff v O (wH (.call c)) dst s) ∧ Pkc E N (.call c) dst s v O wr fr vk := by
 obtain ⟨cal, args, argT⟩ := c
 simp only at hc
 subst hc
 simp only [aE] at h
 split at h
 ·rename_i T T' d2 yo hT hargs
  have hjk : wH (.call ⟨.builtin .append, args, argT⟩) = some d2 := by simp only [wH, hargs]
  cases hb : (Nat.beq T T' && Nat.blt d2 N) with
  |false => rw [hb] at h; exact h.elim
  |true =>
   rw [hb] at h
   simp only [cond_true] at h
   simp only [Bool.and_eq_true] at hb
   split at h
   ·rename_i ti t hti
    split at h
    ·rename_i e hd
     split at h
     ·rename_i ei news o n hei hnews hτ
      cases hb2 : (Nat.beq o d2 && mZ (.n o) (ev N s yo) && !memN (3 * d2) (zK (ev N s yo)) && !Nat.beq ei.sz 0) with
      |false => rw [hb2] at h; exact h.elim
      |true =>
       rw [hb2] at h
       simp only [cond_true] at h
       simp only [Bool.and_eq_true, Bool.not_eq_true'] at hb2
       obtain ⟨⟨⟨e1, hnr⟩, hmn⟩, hz⟩ := hb2
       have e1 : o = d2 := Nat.eq_of_beq_eq_true e1
       subst e1
       split at h
       ·rename_i e' sz els hO
        cases hb3 : (Nat.beq e e' && Nat.beq sz ei.sz) with
        |false => rw [hb3] at h; exact h.elim
        |true =>
         rw [hb3] at h
         simp only [cond_true] at h
         obtain ⟨hcond, hk⟩ := h
         have hev : ev N s (.tmp o) = .ref (.n o) 0 n := by simp only [ev, hb.2, cond_true, hτ]
         have hmem : (Operand.tmp o) ∈ (Op.call ⟨.builtin .append, args, argT⟩).operands ∧ yo ∈ (Op.call ⟨.builtin .append, args, argT⟩).operands := by
          have : args = #[.tmp o, yo] := by apply Array.ext'; exact hargs
          subst this
          simp [Op.operands, Call.operands]
         have hone : ∀ κ ob', one (.n o) (.ds e sz (els.take n ++ news)) κ = some ob' → ∀ c, c ∉ yL ob' := fun κ ob' ho c hm => by
          have := qQ (κ := .n o) (by rw [ho]; simp)
          subst this
          simp [one, zD] at ho; subst ho; simp [yL] at hm
         refine ⟨_, _, _, _, _, by rw [hjk]; exact hk, fun κ hκ => by rw [qQ hκ]; simp [cls], fun s' hA _ hjs => ?_⟩
         rw [hjk]
         have hon := hjs o hjk
         have hτ' : s'.τ o = .ref (.n o) 0 n := by
          have := hA.1 _ hmem.1
          rw [hev] at this
          simpa only [ev, hb.2, cond_true] using this
         have hO' : s'.H (.n o) = some (.ds e' sz els) := (hA.2 _ (wU hmem.1 (by rw [hev]; simp [zK]))).trans hO
         have hy : ev N s' yo = ev N s yo := hA.1 _ hmem.2
         have hnews' : xR s' (ev N s yo) = some news := (sF fun κ hκ => hA.2 κ (wU hmem.2 hκ)).trans hnews
         refine ⟨fun K hK => .of ?_, fun c hc hn => ?_, fun c d hc hn => ?_, fun d hdd hn => ?_⟩
         ·have hevs : evs N s' args = [.ref (.n o) 0 n, ev N s yo] := by
           have : args = #[.tmp o, yo] := by apply Array.ext'; exact hargs
           subst this
           have h1 : ev N s' (.tmp o) = .ref (.n o) 0 n := by simp only [ev, hb.2, cond_true, hτ']
           simp [evs, h1, hy]
          have hTT : T = T' := Nat.eq_of_beq_eq_true hb.1
          subst hTT
          simp only [AOp, fF, hT, hevs, hb.1, cond_true]
          have happ : fA E T (.ref (.n o) 0 n) (ev N s yo) (some t) s' K := by
           simp only [fA, hti, hd, hei, hnews', hz, cond_false, hnr, cond_true, hO', hb3]
           refine ⟨hcond, ?_⟩
           rw [aR hon hτ']
           exact hK
          have hnd : ∀ q m, ev N s yo ≠ .dref q m := by
           intro q m he
           rw [he] at hnews
           simp [xR] at hnews
          generalize ev N s yo = y at happ hnd
          cases y <;> first | exact happ | exact absurd rfl (hnd _ _)
         ·have hct : c ≠ 3 * o := by simpa using hc
          refine NoK.put (NoK.put (hn.over (fun κ hκ => by rw [qQ hκ]; exact fun e => hct e.symm) (fun κ ob' ho => hone κ ob' ho c)) _ fun _ _ => by simp [zK]) _ fun _ _ => by simp [zK, cls]; exact hct
         ·have hct : c ≠ 3 * o := by simpa using hc
          exact Only.put (Only.put (hn.over fun κ ob' ho => hone κ ob' ho c) _ fun _ _ _ => by simp [zK]) _ fun _ _ _ => by simp [zK, cls]; exact hct
         ·exact Only.put (Only.put (hn.over fun κ ob' ho => hone κ ob' ho _) _ fun _ _ _ => by simp [zK]) _ fun e he hne => absurd (by rw [hdd] at he; injection he with he; exact he.symm) hne
       ·exact h.elim
     ·exact h.elim
    ·exact h.elim
   ·exact h.elim
 ·exact h.elim
theorem bK {d t : Nat} {o : Key} (h : ¬ 3 * d = cls o) (h2 : ¬ 3 * t = cls o) : swp (.n d) (.n t) o = o := by
 have h1 : o ≠ .n d := fun e => h (by rw [e]; rfl)
 have h3 : o ≠ .n t := fun e => h2 (by rw [e]; rfl)
 simp [swp, zB h1, zB h3]
mutual
theorem ren_id2 {d t : Nat} : ∀ v : AV, 3 * d ∉ zK v → 3 * t ∉ zK v → ren (swp (.n d) (.n t)) v = v
 | .ref o off n, h1, h2 => by simp only [ren, bK (h := by simpa [zK] using h1) (h2 := by simpa [zK] using h2)]
 | .ptr o off, h1, h2 => by simp only [ren, bK (h := by simpa [zK] using h1) (h2 := by simpa [zK] using h2)]
 | .eptr o j off, h1, h2 => by simp only [ren, bK (h := by simpa [zK] using h1) (h2 := by simpa [zK] using h2)]
 | .dref o n, h1, h2 => by simp only [ren, bK (h := by simpa [zK] using h1) (h2 := by simpa [zK] using h2)]
 | .dptr o j off, h1, h2 => by simp only [ren, bK (h := by simpa [zK] using h1) (h2 := by simpa [zK] using h2)]
 | .mref o, h1, h2 => by simp only [ren, bK (h := by simpa [zK] using h1) (h2 := by simpa [zK] using h2)]
 | .agg cs, h1, h2 => by simp only [ren, kM cs (by simpa [zK] using h1) (by simpa [zK] using h2)]
 | .tup cs, h1, h2 => by simp only [ren, kM cs (by simpa [zK] using h1) (by simpa [zK] using h2)]
 | .fn f cs, h1, h2 => by simp only [ren, kM cs (by simpa [zK] using h1) (by simpa [zK] using h2)]
 | .junk, _, _ => rfl
 | .d x, _, _ => rfl
 | .fp cs, _, _ => rfl
 | .uq e sz els, _, _ => rfl
 | .uqd e sz c e2 sz2 rows subs, _, _ => rfl
 | .ownF f cs, _, _ => rfl
 | .lit v, _, _ => rfl
theorem kM {d t : Nat} : ∀ l : List AV, 3 * d ∉ yG l → 3 * t ∉ yG l → renL (swp (.n d) (.n t)) l = l
 | [], _, _ => rfl
 |v :: vs, h1, h2 => by
  simp only [yG, List.mem_append, not_or] at h1 h2
  simp only [renL, ren_id2 v h1.1 h2.1, kM vs h1.2 h2.2]
end
theorem renO_id2 {d t : Nat} (ob : Ob) (h1 : 3 * d ∉ yL ob) (h2 : 3 * t ∉ yL ob) : renO (swp (.n d) (.n t)) ob = ob := by
 cases ob with
 |vs e cs => simp only [renO, kM cs (by simpa [yL] using h1) (by simpa [yL] using h2)]
 |ds e sz els => rfl
 |rs e sz rows =>
  have : rows.map (renL (swp (.n d) (.n t))) = rows := by
   conv => rhs; rw [← List.map_id rows]
   refine List.map_congr_left fun r hr => kM r (fun hm => h1 ?_) (fun hm => h2 ?_)
   ·simp only [yL, List.mem_flatMap]; exact ⟨r, hr, hm⟩
   ·simp only [yL, List.mem_flatMap]; exact ⟨r, hr, hm⟩
  simp only [renO, this]
 |mp ag ps => rfl
theorem weak_chain {d t n : Nat} {e : TypeId} {sz : Nat} {els : List (List D)} (hne : d ≠ t) (hno : NoK (3 * t) s) (hon : Only (3 * d) d s) :
  Weak E N (put (some t) (.ref (.n d) 0 n) (put (some d) .junk (over (one (.n d) (.ds e sz els)) s))) (put (some t) (.ref (.n t) 0 n) (put (some d) .junk (over (two (.n t) (.n d) (.ds e sz els) (.ds e sz [])) s))) := by
 have ek : ∀ κ : Key, κ ≠ .n d → κ ≠ .n t → swp (.n d) (.n t) κ = κ := fun κ h1 h2 => by simp [swp, zB h1, zB h2]
 have hq : ∀ κ, isK (.n d) κ = true → κ = .n d := fun κ h => yH h
 have e2 : ((put (some t) (.ref (.n d) 0 n) (put (some d) .junk (over (one (.n d) (.ds e sz els)) s))).swap (.n d) (.n t)).new (.n d) (.ds e sz []) = put (some t) (.ref (.n t) 0 n) (put (some d) .junk (over (two (.n t) (.n d) (.ds e sz els) (.ds e sz [])) s)) := by
  cases s with
  |mk τ H =>
   simp only [St.new, St.setH, St.kill, St.swap, put, over, St.mk.injEq]
   constructor
   ·funext i
    by_cases hi : i = t
    ·subst hi
     rw [nbeq_self]
     have : isK (.n d) (.n i) = false := nbeq_ne (Ne.symm hne)
     simp [ren, swp, zD, scrP, this]
    rw [nbeq_ne hi]
    by_cases hi2 : i = d
    ·subst hi2
     rw [nbeq_self]; rfl
    rw [nbeq_ne hi2]
    have h1 := hon.tmp i hi2
    have h2 := hno.tmp i
    show scrP _ (ren _ (τ i)) = τ i
    rw [ren_id2 _ h1 h2]
    exact rT _ fun o ho hm => h1 (by rw [hq o ho] at hm; exact hm)
   ·funext κ
    by_cases h1 : κ = .n d
    ·subst h1
     have : Key.beq (.n d) (.n t) = false := zB fun e => by injection e with e; exact hne e
     simp [zD, two, this, scrPO]
    rw [zB h1, cond_false]
    by_cases h2 : κ = .n t
    ·subst h2
     have : swp (.n d) (.n t) (.n t) = .n d := by
      have : Key.beq (.n t) (.n d) = false := zB fun e => by injection e with e; exact hne e.symm
      simp [swp, this, zD]
     simp [this, one, zD, two, renO, scrPO]
    rw [ek κ h1 h2]
    simp only [one, two, zB h1, zB h2, cond_false]
    cases ho : H κ with
    |none => rfl
    |some ob =>
     have g1 := hon.obj κ ob ho
     have g2 := hno.obj κ ob ho
     simp only [Option.map_some, renO_id2 ob g1 g2]
     show some (scrPO (isK (.n d)) ob) = some ob
     rw [lE ob fun o' ho' hm => g1 (by rw [hq o' ho'] at hm; exact hm)]
 intro A w0 m a w h
 have hS := h.sw (.n d) (.n t) (fun k hk hs => by
  have e1 : swp (.n d) (.n t) (.l k) = .l k := rfl
  show some (m (swp (.n d) (.n t) (.l k))) = A.pin k
  simp only [swH, e1] at hs
  rw [e1]
  exact h.pin k hk (fun hh => hs (by rw [hh]; rfl)))
 have hS1 : SRel E N A w0 (wB (swM (.n d) (.n t) m) (.n d) none) (((put (some t) (.ref (.n d) 0 n) (put (some d) .junk (over (one (.n d) (.ds e sz els)) s))).swap (.n d) (.n t)).new (.n d) (.ds e sz [])) a w := by
  generalize (put (some t) (.ref (.n d) 0 n) (put (some d) .junk (over (one (.n d) (.ds e sz els)) s))).swap (.n d) (.n t) = s1 at hS
  generalize swM (.n d) (.n t) m = m at hS ⊢
  refine hS.change (.n d) (fun i => rfl) (fun o hne => ?_) (fun o hne => yV m _ hne) hS.below (fun Z b hb => ⟨⟨hb.1, fun o ho p hp => ?_, hb.2.2⟩, rfl⟩) (fun _ _ _ _ _ => rfl) (fun ob hob => ?_) (fun _ o hne ho p p' hp hp' => ?_) (fun n hn => (by cases hn))
  ·simp [St.new, St.setH, St.kill, zB hne]
  ·by_cases hne : o = .n d
   ·subst hne; rw [zI] at hp; cases hp
   ·rw [yV m _ hne] at hp
    refine hb.2.1 o (fun hh => ho ?_) p hp
    simp [St.new, St.setH, St.kill, zB hne, hh]
  ·have : ob = .ds e sz [] := by simp [St.new, St.setH, zD, scrPO] at hob; exact hob.symm
   subst this; exact .inl ⟨zI _ _ _, rfl⟩
  ·rw [zI] at hp; cases hp
 rw [e2] at hS1
 exact ⟨_, hS1⟩
theorem r8 {c : Call} {k : KE} (hc : c.callee = .builtin .append) (h : aEX E N (.call c) dst s k) : ∃ v O wr fr vk, k wr fr vk (eff v O (wH (.call c)) dst s) ∧ Pkc E N (.call c) dst s v O wr fr vk := by
 obtain ⟨cal, args, argT⟩ := c
 simp only at hc
 subst hc
 simp only [aEX] at h
 split at h
 ·rename_i T T' d2 yo hT hargs
  have hjk : wH (.call ⟨.builtin .append, args, argT⟩) = some d2 := by simp only [wH, hargs]
  cases hb : (Nat.beq T T' && Nat.blt d2 N) with
  |false => rw [hb] at h; exact h.elim
  |true =>
   rw [hb] at h
   simp only [cond_true] at h
   simp only [Bool.and_eq_true] at hb
   split at h
   ·rename_i ti t hti
    split at h
    ·rename_i e hd
     split at h
     ·rename_i ei news o n hei hnews hτ
      cases hb2 : (Nat.beq o d2 && !Nat.beq d2 t && mZ (.n o) (ev N s yo) && !memN (3 * d2) (zK (ev N s yo)) && !Nat.beq ei.sz 0) with
      |false => rw [hb2] at h; exact h.elim
      |true =>
       rw [hb2] at h
       simp only [cond_true] at h
       simp only [Bool.and_eq_true, Bool.not_eq_true'] at hb2
       obtain ⟨⟨⟨⟨e1, hdt⟩, hnr⟩, hmn⟩, hz⟩ := hb2
       have hne : d2 ≠ t := fun e => by rw [e, nbeq_self] at hdt; cases hdt
       have e1 : o = d2 := Nat.eq_of_beq_eq_true e1
       subst e1
       split at h
       ·rename_i e' sz els hO
        cases hb3 : (Nat.beq e e' && Nat.beq sz ei.sz) with
        |false => rw [hb3] at h; exact h.elim
        |true =>
         rw [hb3] at h
         simp only [cond_true] at h
         obtain ⟨hcond, hk⟩ := h
         have hev : ev N s (.tmp o) = .ref (.n o) 0 n := by simp only [ev, hb.2, cond_true, hτ]
         have hmem : (Operand.tmp o) ∈ (Op.call ⟨.builtin .append, args, argT⟩).operands ∧ yo ∈ (Op.call ⟨.builtin .append, args, argT⟩).operands := by
          have : args = #[.tmp o, yo] := by apply Array.ext'; exact hargs
          subst this
          simp [Op.operands, Call.operands]
         have htwo : ∀ κ ob', two (.n t) (.n o) (.ds e sz (els.take n ++ news)) (.ds e sz []) κ = some ob' → ∀ c, c ∉ yL ob' := fun κ ob' ho c hm => by
          simp only [two] at ho
          cases h1 : Key.beq κ (.n t) with
          |true => rw [h1] at ho; injection ho with ho; subst ho; simp [yL] at hm
          |false =>
           rw [h1] at ho
           cases h2 : Key.beq κ (.n o) with
           |true => rw [h2] at ho; injection ho with ho; subst ho; simp [yL] at hm
           |false => rw [h2] at ho; cases ho
         have htk : ∀ κ, two (.n t) (.n o) (.ds e sz (els.take n ++ news)) (.ds e sz []) κ ≠ none → κ = .n t ∨ κ = .n o := fun κ hκ => by
          simp only [two] at hκ
          cases h1 : Key.beq κ (.n t) with
          |true => exact .inl (yH h1)
          |false =>
           rw [h1] at hκ
           cases h2 : Key.beq κ (.n o) with
           |true => exact .inr (yH h2)
           |false => rw [h2] at hκ; exact absurd rfl hκ
         refine ⟨_, _, _, _, _, by rw [hjk]; exact hk, fun κ hκ => by rcases htk κ hκ with e | e <;> rw [e] <;> simp [cls], fun s' hA hfr hjs => ?_⟩
         rw [hjk]
         have hon := hjs o hjk
         have hτ' : s'.τ o = .ref (.n o) 0 n := by
          have := hA.1 _ hmem.1
          rw [hev] at this
          simpa only [ev, hb.2, cond_true] using this
         have hO' : s'.H (.n o) = some (.ds e' sz els) := (hA.2 _ (wU hmem.1 (by rw [hev]; simp [zK]))).trans hO
         have hy : ev N s' yo = ev N s yo := hA.1 _ hmem.2
         have hnews' : xR s' (ev N s yo) = some news := (sF fun κ hκ => hA.2 κ (wU hmem.2 hκ)).trans hnews
         refine ⟨fun K hK => ?_, fun c hc hn => ?_, fun c d hc hn => ?_, fun d hdd hn => ?_⟩
         ·have hevs : evs N s' args = [.ref (.n o) 0 n, ev N s yo] := by
           have : args = #[.tmp o, yo] := by apply Array.ext'; exact hargs
           subst this
           have h1 : ev N s' (.tmp o) = .ref (.n o) 0 n := by simp only [ev, hb.2, cond_true, hτ']
           simp [evs, h1, hy]
          have hTT : T = T' := Nat.eq_of_beq_eq_true hb.1
          subst hTT
          have hno : NoK (3 * t) s' := hfr _ (by simp)
          refine ⟨fun s1 => s1 = put (some t) (.ref (.n o) 0 (n + news.length)) ((s'.kill (.n o)).setH (.n o) (.ds e sz (els.take n ++ news))), ?_, fun s1 h1 => ?_⟩
          ·simp only [AOp, fF, hT, hevs, hb.1, cond_true]
           have happ : fA E T (.ref (.n o) 0 n) (ev N s yo) (some t) s' (fun s1 => s1 = put (some t) (.ref (.n o) 0 (n + news.length)) ((s'.kill (.n o)).setH (.n o) (.ds e sz (els.take n ++ news)))) := by
            simp only [fA, hti, hd, hei, hnews', hz, cond_false, hnr, cond_true, hO', hb3]
            exact ⟨hcond, trivial⟩
           have hnd : ∀ q m, ev N s yo ≠ .dref q m := by
            intro q m he
            rw [he] at hnews
            simp [xR] at hnews
           generalize ev N s yo = y at happ hnd
           cases y <;> first | exact happ | exact absurd rfl (hnd _ _)
          ·subst h1
           rw [aR hon hτ']
           exact ⟨_, weak_chain hne hno hon, hK⟩
         ·have hct : c ≠ 3 * o ∧ c ≠ 3 * t := by simpa using hc
          refine NoK.put (NoK.put (hn.over (fun κ hκ => by rcases htk κ hκ with e | e <;> rw [e] <;> simp only [cls]; exact fun e => hct.2 e.symm; exact fun e => hct.1 e.symm) (fun κ ob' ho => htwo κ ob' ho c)) _ fun _ _ => by simp [zK]) _ fun _ _ => by simp [zK, cls]; exact hct.2
         ·have hct : c ≠ 3 * t := by simp at hc; exact hc.2
          exact Only.put (Only.put (hn.over fun κ ob' ho => htwo κ ob' ho c) _ fun _ _ _ => by simp [zK]) _ fun _ _ _ => by simp [zK, cls]; exact hct
         ·exact Only.put (Only.put (hn.over fun κ ob' ho => htwo κ ob' ho _) _ fun _ _ _ => by simp [zK]) _ fun e he hne => absurd (by rw [hdd] at he; injection he with he; exact he.symm) hne
       ·exact h.elim
     ·exact h.elim
    ·exact h.elim
   ·exact h.elim
 ·exact h.elim
theorem m4 : ∀ (cs : List AV) (xs : List D) (s s' : St), fzk s cs = some (xs, []) → fzk s' cs = some (xs, [])
 | [], xs, s, s', h => h
 |c :: cs, xs, s, s', h => by
  simp only [fzk] at h ⊢
  cases hr : fzk s cs with
  |none => rw [hr] at h; cases h
  |some p =>
   obtain ⟨ys, ks⟩ := p
   rw [hr] at h
   simp only at h
   cases c <;> simp only at h
   case d x =>
    simp only [Option.some.injEq, Prod.mk.injEq] at h
    obtain ⟨h1, h2⟩ := h
    subst h2
    rw [m4 cs ys s s' hr]
    simp [h1]
   case ref o off n =>
    cases hq : fz1 s (.ref o off n) with
    |none => rw [hq] at h; cases h
    |some x => rw [hq] at h; simp at h
   all_goals cases h
theorem nH : ∀ (els : List (List AV)) (xs : List (List D)) (s s' : St), fG s els = some (xs, []) → fG s' els = some (xs, [])
 | [], xs, s, s', h => h
 |v :: vs, xs, s, s', h => by
  simp only [fG] at h ⊢
  cases h1 : fzk s v with
  |none => rw [h1] at h; cases h
  |some p =>
   cases h2 : fG s vs with
   |none => rw [h1, h2] at h; cases h
   |some q =>
    obtain ⟨x, k1⟩ := p
    obtain ⟨ys, k2⟩ := q
    rw [h1, h2] at h
    simp only [Option.some.injEq, Prod.mk.injEq, List.append_eq_nil_iff] at h
    obtain ⟨h3, h4, h5⟩ := h
    subst h4; subst h5
    rw [m4 v x s s' h1, nH vs ys s s' h2]
    simp [h3]
theorem pairs_c {T : TypeId} {ps : Array (Nat × Operand)} (h : ∀ x ∈ (ps.toList.map (·.2)).toArray, ev N s' x = ev N s x) : (ps.toList.map fun p => (p.1, ev N s' p.2)) = (ps.toList.map fun p => (p.1, ev N s p.2)) :=
 List.map_congr_left fun p hp => by rw [h p.2 (by simp; exact ⟨p.1, by simpa using hp⟩)]
theorem evs_c {xs : Array Operand} (h : ∀ x ∈ xs, ev N s' x = ev N s x) : evs N s' xs = evs N s xs :=
 List.map_congr_left fun x hx => h x (by simpa using hx)
theorem opt_c {x : Option Operand} (h : ∀ y, x = some y → ev N s' y = ev N s y) : x.map (ev N s') = x.map (ev N s) := by
 cases x with
 |none => rfl
 |some y => simp [h y rfl]
theorem aE_inv {op : Op} {k : KE} (h : aE E N op dst s k) : ∃ v O wr fr vk, k wr fr vk (eff v O (wH op) dst s) ∧ Pkc E N op dst s v O wr fr vk := by
 cases op <;> simp only [aE] at h <;> try exact h.elim
 case move x =>
  rw [yR] at h
  exact qX rfl h fun s' hA K hK => by simp only [AOp, yR]; rw [hA.1 x (by simp [Op.operands])]; exact hK
 case assign x =>
  rw [yR] at h
  exact qX rfl h fun s' hA K hK => by simp only [AOp, yR]; rw [hA.1 x (by simp [Op.operands])]; exact hK
 case pick c x y =>
  split at h
  ·rename_i b hb
   cases b with
   |true =>
    simp only [yR] at h
    exact qX rfl h fun s' hA K hK => by
     simp only [AOp, yR]
     rw [hA.1 c (by simp [Op.operands]), hb]
     simp only
     rw [hA.1 x (by simp [Op.operands])]; exact hK
   |false =>
    simp only [yR] at h
    exact qX rfl h fun s' hA K hK => by
     simp only [AOp, yR]
     rw [hA.1 c (by simp [Op.operands]), hb]
     simp only
     rw [hA.1 y (by simp [Op.operands])]; exact hK
  ·exact h.elim
 case load T x => exact wC rfl _ _ (lh_load T (ev N s x) s) (fun c hc => wU (by simp [Op.operands]) hc) h fun s' hA K hG => by simp only [AOp]; rw [hA.1 x (by simp [Op.operands])]; exact hG
 case binOp o T x y T' => exact wC rfl _ _ (lh_bin T o (ev N s x) (ev N s y) s) (by simp) h fun s' hA K hG => by simp only [AOp]; rw [hA.1 x (by simp [Op.operands]), hA.1 y (by simp [Op.operands])]; exact i8 hG
 case unOp o T x => exact wC rfl _ _ (lh_un o (ev N s x) s) (by simp) h fun s' hA K hG => by simp only [AOp]; rw [hA.1 x (by simp [Op.operands])]; exact hG
 case convert S T x => exact wC rfl _ _ (lh_conv S T (ev N s x) s) (fun c hc => wU (by simp [Op.operands]) hc) h fun s' hA K hG => by simp only [AOp]; rw [hA.1 x (by simp [Op.operands])]; exact hG
 case slice T x lo hi mx =>
  exact wC rfl _ _ (lh_slice T (ev N s x) _ _ _ s) (fun c hc => wU (by simp [Op.operands]) hc) h fun s' hA K hG => by
   simp only [AOp]
   rw [hA.1 x (by simp [Op.operands]), opt_c (x := lo) fun y hy => hA.1 y (by simp [Op.operands, hy]), opt_c (x := hi) fun y hy => hA.1 y (by simp [Op.operands, hy]), opt_c (x := mx) fun y hy => hA.1 y (by simp [Op.operands, hy])]
   exact hG
 case fieldAddr T x f => exact wC rfl _ _ (lh_field T f (ev N s x) s) (by simp) h fun s' hA K hG => by simp only [AOp]; rw [hA.1 x (by simp [Op.operands])]; exact hG
 case field T x f => exact wC rfl _ _ (lh_part T f (ev N s x) s) (by simp) h fun s' hA K hG => by simp only [AOp]; rw [hA.1 x (by simp [Op.operands])]; exact hG
 case indexAddr T x i => exact wC rfl _ _ (lh_idxAddr T (ev N s x) (ev N s i) s) (fun c hc => wU (by simp [Op.operands]) hc) h fun s' hA K hG => by simp only [AOp]; rw [hA.1 x (by simp [Op.operands]), hA.1 i (by simp [Op.operands])]; exact hG
 case index T x i => exact wC rfl _ _ (lh_idx T (ev N s x) (ev N s i) s) (by simp) h fun s' hA K hG => by simp only [AOp]; rw [hA.1 x (by simp [Op.operands]), hA.1 i (by simp [Op.operands])]; exact hG
 case lookup T x i ok => exact wC rfl _ _ (lh_lookup T (ev N s x) (ev N s i) ok s) (fun c hc => wU (by simp [Op.operands]) hc) h fun s' hA K hG => by simp only [AOp]; rw [hA.1 x (by simp [Op.operands]), hA.1 i (by simp [Op.operands])]; exact hG
 case build T parts =>
  exact wC rfl _ _ (lh_build T _ s) (by simp) h fun s' hA K hG => by
   simp only [AOp]
   rw [pairs_c (T := T) (s := s) (s' := s') (ps := parts) fun x hx => hA.1 x hx]; exact hG
 case nilCheck x =>
  split at h <;> first | exact h.elim | skip
  all_goals
   rename_i hb
   first
    |exact qX rfl h fun s' hA K hK => by simp only [AOp]; rw [hA.1 x (by simp [Op.operands]), hb]; exact hK
    |exact qX (v := .fp _) rfl h fun s' hA K hK => by simp only [AOp]; rw [hA.1 x (by simp [Op.operands]), hb]; exact hK
 case extract x i =>
  split at h
  ·rename_i vs hb
   split at h
   ·rename_i v hv
    rw [yR] at h
    exact qX rfl h fun s' hA K hK => by simp only [AOp]; rw [hA.1 x (by simp [Op.operands]), hb]; simp only [hv, yR]; exact hK
   ·exact h.elim
  ·exact h.elim
 case alloc T =>
  split at h
  ·rename_i ti t hti
   have hz : ∀ l : List D, yG (l.map AV.d) = [] := fun l => by induction l with | nil => rfl | cons x xs ih => simp [yG, zK, ih]
   exact bU rfl h (fun c hc => by simpa [zK, cls] using hc) (by simp) (fun c hc => by simp [yL, hz] at hc) fun s' hA K hK => by simp only [AOp, hti]; exact hK
  ·exact h.elim
 case makeSlice T l c =>
  split at h
  ·rename_i ti t k1 n k2 cap hti hl hc
   split at h
   ·rename_i e hd
    split at h
    ·rename_i ei hei
     cases hz : Nat.beq ei.sz 0 with
     |true => rw [hz] at h; exact h.elim
     |false =>
      rw [hz] at h
      simp only [cond_false] at h
      exact bU rfl h.2 (fun c hc => by simpa [zK, cls] using hc) (by simp) (fun c hc => by simp [yL] at hc) fun s' hA K hK => by
       simp only [AOp, aMake]
       rw [hA.1 l (by simp [Op.operands]), hA.1 c (by simp [Op.operands]), hl, hc]
       simp only [hti, hd, hei, hz, cond_false]
       exact ⟨h.1, hK⟩
    ·exact h.elim
   ·exact h.elim
  ·exact h.elim
 case buildSlice T len parts =>
  split at h
  ·rename_i ti t hti
   split at h
   ·rename_i e hd
    split at h
    ·rename_i ei hei
     cases hz : (Nat.beq ei.sz 0 || Nat.blt 4096 (len * ei.sz)) with
     |true => rw [hz] at h; exact h.elim
     |false =>
      rw [hz] at h
      simp only [cond_false] at h
      split at h
      ·rename_i els hels
       have hpc : ∀ s', qO N (.buildSlice T len parts) s s' → (parts.toList.map fun p => (p.1, ev N s' p.2)) = (parts.toList.map fun p => (p.1, ev N s p.2)) := fun s' hA => pairs_c (T := T) fun x hx => hA.1 x hx
       split at h
       ·rename_i xs hks
        exact bU rfl h (fun c hc => by simpa [zK, cls] using hc) (by simp) (fun c hc => by simp [yL] at hc) fun s' hA K hK => by
         simp only [AOp, qN]
         rw [hpc s' hA]
         simp only [hti, hd, hei, hz, cond_false, hels, nH els xs s s' hks]
         exact hK
       ·rename_i hnk
        cases hoc : els.all (fun c => c.all fun v => yN v && !memN (3 * t) (zK v)) with
        |false => rw [hoc] at h; exact h.elim
        |true =>
         rw [hoc] at h
         simp only [cond_true] at h
         have hok : els.all (fun c => c.all yN) = true := by
          simp only [List.all_eq_true, Bool.and_eq_true] at hoc ⊢
          exact fun c hc v hv => (hoc c hc v hv).1
         refine bU rfl h (fun c hc => by simp [zK, cls] at hc; simp [hc]) (by simp) (fun c hc => ?_) fun s' hA K hK => ?_
         ·simp only [yL, List.mem_flatMap] at hc
          obtain ⟨r, hr, hcr⟩ := hc
          refine ⟨List.mem_cons_of_mem _ (List.mem_flatMap.2 ⟨r, hr, hcr⟩), fun e => ?_⟩
          subst e
          obtain ⟨v, hv, hcv⟩ := xC.1 hcr
          simp only [List.all_eq_true, Bool.and_eq_true] at hoc
          have := (hoc r hr v hv).2
          rw [lR hcv] at this; cases this
         ·simp only [AOp, qN]
          rw [hpc s' hA]
          simp only [hti, hd, hei, hz, cond_false, hels]
          split
          ·rename_i xs hks
           exact absurd (nH els xs s' s hks) (hnk xs)
          ·exact .inr (by rw [hok]; exact hK)
          ·rw [hok]; exact hK
      ·exact h.elim
    ·exact h.elim
   ·exact h.elim
  ·exact h.elim
 case store T ad x =>
  split at h
  ·exact store_inv h
  ·exact h.elim
 case call c =>
  obtain ⟨cal, args, argT⟩ := c
  cases cal with
  |invoke r nm => exact h.elim
  |builtin b =>
   by_cases hbb : b = .append
   ·subst hbb
    exact append_inv rfl (by simpa only [aE] using h)
   have hj : wH (.call ⟨.builtin b, args, argT⟩) = none := by cases b <;> first | rfl | exact absurd rfl hbb
   replace h : aEb E b argT.toList (evs N s args) dst s k := by cases b <;> first | exact h | exact absurd rfl hbb
   unfold aEb at h
   have hev : ∀ s', qO N (.call ⟨.builtin b, args, argT⟩) s s' → evs N s' args = evs N s args := fun s' hA => evs_c fun x hx => hA.1 x (by simpa [Op.operands, Call.operands] using hx)
   split at h
   ·rename_i T TT x hT hx
    exact wC hj _ _ (lh_len T x s) (by simp) h fun s' hA K hG => by simp only [AOp, fF]; rw [hev s' hA, hT, hx]; exact hG
   ·rename_i Ts k1 p k2 q hx
    exact qX (v := .d _) rfl h fun s' hA K hK => by simp only [AOp, fF]; rw [hev s' hA, hx]; exact hK
   ·rename_i Ts k1 p k2 q hx
    exact qX (v := .d _) rfl h fun s' hA K hK => by simp only [AOp, fF]; rw [hev s' hA, hx]; exact hK
   ·exact h.elim
  |value f =>
   simp only at h
   split at h
   ·rename_i g caps hf
    cases hnp : ((evs N s args).all sC && caps.all (fun c => !fS c)) with
    |false => rw [hnp] at h; exact h.elim
    |true =>
     rw [hnp] at h
     simp only [cond_true] at h
     simp only [Bool.and_eq_true] at hnp
     split at h
     ·rename_i as1 cs has hcs
      have hop : ∀ s', qO N (.call ⟨.value f, args, argT⟩) s s' → evs N s' args = evs N s args ∧ ev N s' f = ev N s f ∧ fzs s' (evs N s args) = some as1 ∧ fU s' caps = some cs := by
       intro s' hA
       refine ⟨evs_c fun x hx => hA.1 x (by simp [Op.operands, Call.operands, hx]), hA.1 f (by simp [Op.operands, Call.operands]), ?_, ?_⟩
       ·rw [fzs_c hnp.1 fun κ hk => hA.2 κ ?_, has]
        obtain ⟨v, hv, hc⟩ := xC.1 hk
        obtain ⟨x, hx, rfl⟩ := List.mem_map.1 hv
        exact wU (by simp [Op.operands, Call.operands]; right; simpa using hx) hc
       ·rw [fzps_c hnp.2 fun κ hk => hA.2 κ ?_, hcs]
        refine wU (x := f) (by simp [Op.operands, Call.operands]) ?_
        rw [hf]; simpa [zK] using hk
      cases hB : (yF (evs N s args) || yF caps) with
      |true =>
       rw [hB] at h
       simp only [cond_true] at h
       obtain ⟨r, h1, h2, h3⟩ := h
       obtain ⟨v, O, wr, fr, vk, g1, g2⟩ := ret_inv (N := N) (E := E) (op := .call ⟨.value f, args, argT⟩) rfl h3
       refine ⟨v, O, wr, fr, vk, g1, g2 fun s' hA hfr K hK => ?_⟩
       obtain ⟨e1, e2, e3, e4⟩ := hop s' hA
       simp only [AOp, fF]
       rw [e1, e2, hf]
       simp only [e3, e4, hB, cond_true]
       exact .inl ⟨_, h1, fun r' hr => by subst hr; exact ⟨h2, hK⟩⟩
      |false =>
       rw [hB] at h
       simp only [cond_false] at h
       obtain ⟨r, h1, h3⟩ := h
       obtain ⟨v, O, wr, fr, vk, g1, g2⟩ := ret_inv (N := N) (E := E) (op := .call ⟨.value f, args, argT⟩) rfl h3
       refine ⟨v, O, wr, fr, vk, g1, g2 fun s' hA hfr K hK => ?_⟩
       obtain ⟨e1, e2, e3, e4⟩ := hop s' hA
       simp only [AOp, fF]
       rw [e1, e2, hf]
       simp only [e3, e4, hB, cond_false]
       exact ⟨_, h1, fun r' hr => by subst hr; exact hK⟩
     ·exact h.elim
   ·exact h.elim
end
end Ai
end
section
namespace Ai
open Go Go.RowKit
section
variable {E : Env} {N : Nat} {A : Fr} {w0 w w' : World} {m m' : Own} {s s' : St} {a : Act} {dst : Option Tmp} {ops : Array Oper} {rs : List Rec}
def uK (rs : List Rec) (i : Nat) : Option Tmp := (rs[i]?).bind (·.jk)
def jO (o : Oper) (rs : List Rec) (i : Nat) (v : AV) (O : Key → Option Ob) (s : St) : St := eff v O (uK rs i) o.dst s
def PkN (E : Env) (N : Nat) (ops : Array Oper) (rs : List Rec) (i : Nat) (o : Oper) (s : St) (v : AV) (O : Key → Option Ob) : Prop :=
 (wants N ops o.guard s = some true ∧ ∃ r, rs[i]? = some r ∧ r.jk = wH o.op ∧ (∀ c ∈ yG (evs N s o.op.operands), c ∈ r.rd) ∧ Pkc E N o.op o.dst s v O r.wr r.fr r.vk) ∨
 (wants N ops o.guard s = some false ∧ v = xK ∧ (O = fun _ => none) ∧ ∃ r, rs[i]? = some r ∧ r.jk = none)
def tY (rs : List Rec) (listed : Array Bool) (s : St) : Prop := ∀ i r, rs[i]? = some r → listed.getD i false = false → (∀ c ∈ r.fr, NoK c s) ∧ ∀ d, r.jk = some d → Only (3 * d) d s
def AAnyE (E : Env) (N : Nat) (ops : Array Oper) (rs : List Rec) (p : Nat) (K : Array Bool → St → Prop) : Nat → Array Bool → St → Prop
 | 0, listed, s => K listed s
 |fuel + 1, listed, s => Region.ready .any ops listed ≠ [] ∧ ∀ i ∈ Region.ready .any ops listed, i < p ∧ ∃ o v O, ops[i]? = some o ∧ PkN E N ops rs i o s v O ∧
   AAnyE E N ops rs p K fuel (listed.setIfInBounds i true) (jO o rs i v O s)
theorem PkN.dom {i : Nat} {o : Oper} {v : AV} {O : Key → Option Ob} (h : PkN E N ops rs i o s v O) {r : Rec} (hr : rs[i]? = some r) (κ : Key) (hk : O κ ≠ none) : cls κ ∈ r.wr := by
 rcases h with ⟨_, r', h1, _, _, h2⟩ | ⟨_, _, rfl, _⟩
 ·rw [hr] at h1; injection h1 with h1; subst h1
  exact h2.1 κ hk
 ·exact absurd rfl hk
theorem PkN.move {i : Nat} {o : Oper} {v : AV} {O : Key → Option Ob} (h : PkN E N ops rs i o s v O) (hw : wants N ops o.guard s' = wants N ops o.guard s) (hev : ∀ x ∈ o.op.operands, ev N s' x = ev N s x)
  (hH : ∀ r, rs[i]? = some r → ∀ κ, cls κ ∈ r.rd → s'.H κ = s.H κ) : PkN E N ops rs i o s' v O := by
 rcases h with ⟨h1, r, h2, hj, h3, h4⟩ | ⟨h1, h2, h3, h4⟩
 ·have he : evs N s' o.op.operands = evs N s o.op.operands := evs_c hev
  refine .inl ⟨hw.trans h1, r, h2, hj, by rw [he]; exact h3, h4.1, fun s2 hA hf ho => h4.2 s2 ⟨fun x hx => (hA.1 x hx).trans (hev x hx), fun κ hk => ?_⟩ hf ho⟩
  rw [hA.2 κ (by rw [he]; exact hk), hH r h2 κ (h3 _ hk)]
 ·exact .inr ⟨hw.trans h1, h2, h3, h4⟩
theorem ev_eff {O : Key → Option Ob} {v : AV} {d2 : Option Tmp} {x : Operand} (h : ∀ d, dst = some d → x ≠ .tmp d) (h2 : ∀ d, d2 = some d → x ≠ .tmp d) : ev N (eff v O d2 dst s) x = ev N s x := by
 unfold eff
 rw [oP h, oP h2]
 cases x <;> rfl
theorem cU (o : Oper) {O : Key → Option Ob} {v : AV} {d2 : Option Tmp} (h : ∀ d, dst = some d → d ∉ o.looksAt ops) (h2 : ∀ d, d2 = some d → d ∉ o.looksAt ops) : wants N ops o.guard (eff v O d2 dst s) = wants N ops o.guard s := by
 unfold eff
 rw [bI o _ dst v h, bI o _ d2 .junk h2]
 unfold wants
 cases o.guard with
 |none => rfl
 |some p =>
  obtain ⟨j, b⟩ := p
  simp only
  cases ops[j]? with
  |none => rfl
  |some oj =>
   simp only
   cases oj.dst <;> rfl
theorem eff_H (v : AV) (O : Key → Option Ob) (d2 dst : Option Tmp) (s : St) (κ : Key) (h : O κ = none) : (eff v O d2 dst s).H κ = s.H κ := by
 unfold eff
 rw [aD, aD]
 show (match O κ with | some ob => some ob | none => s.H κ) = s.H κ
 rw [h]
theorem lS {o : Oper} {x : Operand} (hx : x ∈ o.op.operands) {d : Tmp} (h : d ∉ o.looksAt ops) : x ≠ .tmp d := fun e => h (by
 subst e
 exact List.mem_append_left _ (List.mem_filterMap.2 ⟨.tmp d, by simpa using hx, rfl⟩))
theorem PkN.past {i : Nat} {o : Oper} {v u : AV} {O U : Key → Option Ob} {d2 : Option Tmp} (h : PkN E N ops rs i o s v O) (hd : ∀ d, dst = some d → d ∉ o.looksAt ops) (hd2 : ∀ d, d2 = some d → d ∉ o.looksAt ops)
  (hU : ∀ r, rs[i]? = some r → ∀ κ, cls κ ∈ r.rd → U κ = none) : PkN E N ops rs i o (eff u U d2 dst s) v O :=
 h.move (cU o hd hd2) (fun x hx => ev_eff (fun d e => lS hx (hd d e)) fun d e => lS hx (hd2 d e)) fun r hr κ hk => eff_H _ _ _ _ _ _ (hU r hr κ hk)
theorem PkN.back {i : Nat} {o : Oper} {v u : AV} {O U : Key → Option Ob} {d2 : Option Tmp} (h : PkN E N ops rs i o (eff u U d2 dst s) v O) (hd : ∀ d, dst = some d → d ∉ o.looksAt ops) (hd2 : ∀ d, d2 = some d → d ∉ o.looksAt ops)
  (hU : ∀ r, rs[i]? = some r → ∀ κ, cls κ ∈ r.rd → U κ = none) : PkN E N ops rs i o s v O :=
 h.move (cU o hd hd2).symm (fun x hx => (ev_eff (fun d e => lS hx (hd d e)) fun d e => lS hx (hd2 d e)).symm) fun r hr κ hk => (eff_H _ _ _ _ _ _ (hU r hr κ hk)).symm
theorem PkN.clean {i : Nat} {o : Oper} {v : AV} {O : Key → Option Ob} (h : PkN E N ops rs i o s v O) (hcl : ∀ r, rs[i]? = some r → (∀ c ∈ r.fr, NoK c s) ∧ ∀ d, r.jk = some d → Only (3 * d) d s) {c : Nat} (hc : ∀ r, rs[i]? = some r → c ∉ r.vk) (hn : NoK c s) : NoK c (jO o rs i v O s) := by
 rcases h with ⟨_, r, h2, hj, _, h4⟩ | ⟨_, rfl, rfl, r, h2, hj⟩
 ·have e : uK rs i = wH o.op := by simp only [uK, h2, Option.bind_some, hj]
  unfold jO; rw [e]
  exact ((h4.2 s ⟨fun _ _ => rfl, fun _ _ => rfl⟩ (hcl r h2).1 fun d hd => (hcl r h2).2 d (hj.trans hd)).2.1 c (hc r h2) hn)
 ·have e : uK rs i = none := by simp only [uK, h2, Option.bind_some, hj]
  unfold jO; rw [e]
  exact hn.put _ fun _ _ => by simp [xK, zK, yG]
theorem PkN.only {i : Nat} {o : Oper} {v : AV} {O : Key → Option Ob} (h : PkN E N ops rs i o s v O) (hcl : ∀ r, rs[i]? = some r → (∀ c ∈ r.fr, NoK c s) ∧ ∀ d, r.jk = some d → Only (3 * d) d s) {d : Tmp} (hc : ∀ r, rs[i]? = some r → o.dst = some d ∨ 3 * d ∉ r.vk) (hn : Only (3 * d) d s) : Only (3 * d) d (jO o rs i v O s) := by
 rcases h with ⟨_, r, h2, hj, _, h4⟩ | ⟨_, rfl, rfl, r, h2, hj⟩
 ·have e : uK rs i = wH o.op := by simp only [uK, h2, Option.bind_some, hj]
  unfold jO; rw [e]
  have := (h4.2 s ⟨fun _ _ => rfl, fun _ _ => rfl⟩ (hcl r h2).1 fun d hd => (hcl r h2).2 d (hj.trans hd)).2.2
  rcases hc r h2 with hd | hd
  ·exact this.2 d hd hn
  ·exact this.1 _ d hd hn
 ·have e : uK rs i = none := by simp only [uK, h2, Option.bind_some, hj]
  unfold jO; rw [e]
  exact hn.put _ fun _ _ _ => by simp [xK, zK, yG]
structure Confs (ops : Array Oper) (rs : List Rec) (p : Nat) : Prop where
 len : rs.length = p
 le : p ≤ ops.size
 pair : ∀ i j, i < p → j < p → i ≠ j → confP ops rs i j = true
 ready : ∀ k, k < ops.size → k ∈ Region.ready .any ops (fK ops.size k)
 alone : ∀ k, p ≤ k → k < ops.size → Region.ready .any ops (fK ops.size k) = [k] ∨ j4 ops k = true
 anc : ∀ k, p ≤ k → k < ops.size → ∀ i, i < p → bC ops i ops.size k = true
theorem gU {i j : Nat} {oi oj : Oper} {ri rj : Rec} (h : confP ops rs i j = true) (h1 : ops[i]? = some oi) (h2 : ops[j]? = some oj) (h3 : rs[i]? = some ri) (h4 : rs[j]? = some rj) :
  (bC ops i ops.size j = false → bC ops j ops.size i = false → oi.apart ops oj = true ∧ oj.apart ops oi = true ∧ (∀ c ∈ ri.wr, c ∉ rj.rd) ∧ (∀ c ∈ ri.wr, c ∉ rj.wr) ∧ (∀ c ∈ rj.wr, c ∉ ri.rd) ∧
   (∀ d, ri.jk = some d → d ∉ oj.looksAt ops ∧ oj.dst ≠ some d ∧ rj.jk ≠ some d) ∧ (∀ d, rj.jk = some d → d ∉ oi.looksAt ops ∧ oi.dst ≠ some d ∧ ri.jk ≠ some d)) ∧
  (bC ops i ops.size j = false → (∀ c ∈ ri.fr, c ∉ rj.vk) ∧ ∀ d, ri.jk = some d → oj.dst = some d ∨ 3 * d ∉ rj.vk) := by
 have jk : ∀ (a b : Oper) (x y : Rec), jkOK a b ops x y = true → ∀ d, x.jk = some d → d ∉ b.looksAt ops ∧ b.dst ≠ some d ∧ y.jk ≠ some d := by
  intro a b x y hh d hd
  simp only [jkOK, hd, Bool.and_eq_true, Bool.not_eq_true', bne_iff_ne, ne_eq] at hh
  obtain ⟨⟨g1, g2⟩, g3⟩ := hh
  exact ⟨fun hm => by simp at g1; exact g1 hm, g2, g3⟩
 unfold confP at h
 simp only [h1, h2, h3, h4, Bool.and_eq_true, Bool.or_eq_true] at h
 obtain ⟨ha, hb⟩ := h
 constructor
 ·intro g1 g2
  rw [g1, g2] at ha
  simp only [Bool.false_eq_true, false_or] at ha
  obtain ⟨⟨⟨⟨⟨⟨a1, a2⟩, a3⟩, a4⟩, a5⟩, a6⟩, a7⟩ := ha
  exact ⟨a1, a2, gC a3, gC a4, gC a5, jk _ _ _ _ a6, jk _ _ _ _ a7⟩
 ·intro g1
  rw [g1] at hb
  simp only [Bool.false_eq_true, false_or] at hb
  refine ⟨gC hb.1, fun d hd => ?_⟩
  have h2 := hb.2
  simp only [jkVk, hd, Bool.or_eq_true, beq_iff_eq, Bool.not_eq_true'] at h2
  rcases h2 with h2 | h2
  ·exact .inl h2
  ·exact .inr fun hm => by rw [lR hm] at h2; cases h2
theorem bQ {listed : Array Bool} (hsz : listed.size = ops.size) (hd : DownC ops listed) {i j : Nat} (hi : i < ops.size) (hun : listed.getD i false = false) (hj : j ∈ Region.ready .any ops listed) : bC ops i ops.size j = false := by
 cases h : bC ops i ops.size j with
 |false => rfl
 |true =>
  obtain ⟨_, oj, hoj, hall⟩ := mem_ready.1 hj
  have := bB ops.size j hd h (fun o ho e he hb => by rw [hoj] at ho; injection ho with ho; subst ho; exact hall e he hb)
  rw [hun] at this; cases this
theorem kO {listed : Array Bool} (hsz : listed.size = ops.size) {i : Nat} (hi : i ∈ Region.ready .any ops listed) : i < ops.size ∧ listed.getD i false = false := by
 obtain ⟨h0, oi, hoi, _⟩ := mem_ready.1 hi
 have := (Array.getElem?_eq_some_iff.1 hoi).1
 exact ⟨this, by rw [gL (by omega)] at h0; exact h0⟩
theorem AAnyE_first {p : Nat} {K : Array Bool → St → Prop} (hC : Confs ops rs p) {i : Nat} {oi : Oper} (hi : ops[i]? = some oi) (hip : i < p) (hK : ∀ listed s, K listed s → listed = fK ops.size p) :
  ∀ (fuel : Nat) (listed : Array Bool) (s : St) (v : AV) (O : Key → Option Ob), listed.size = ops.size → DownC ops listed → tY rs listed s → i ∈ Region.ready .any ops listed → PkN E N ops rs i oi s v O →
   AAnyE E N ops rs p K fuel (listed.setIfInBounds i true) (jO oi rs i v O s) → AAnyE E N ops rs p K (fuel + 1) listed s := by
 intro fuel
 have his := (Array.getElem?_eq_some_iff.1 hi).1
 have hno : ∀ (listed : Array Bool), listed.size = ops.size → DownC ops listed → i ∈ Region.ready .any ops listed → ∀ j ∈ Region.ready .any ops listed, j < p := by
  intro listed hsz hd hr j hj
  rcases Nat.lt_or_ge j p with h | h
  ·exact h
  ·have := bQ hsz hd his (kO hsz hr).2 hj
   rw [hC.anc j h (kO hsz hj).1 i hip] at this; cases this
 induction fuel with
 |zero =>
  intro listed s v O hsz hd hcl hr hy H
  refine ⟨fun h => (by rw [h] at hr; cases hr), fun j hj => ⟨hno listed hsz hd hr j hj, ?_⟩⟩
  by_cases hji : j = i
  ·subst hji; exact ⟨oi, v, O, hi, hy, H⟩
  ·have h1 := hK _ _ H
   have hjp := hno listed hsz hd hr j hj
   obtain ⟨hjs, hjun⟩ := kO hsz hj
   have h2 : (listed.setIfInBounds i true).getD j false = true := by rw [h1, gP]; simp [hjp, hjs]
   rcases sU h2 with h3 | h3
   ·exact absurd h3.symm hji
   ·rw [h3] at hjun; cases hjun
 |succ fuel ih =>
  intro listed s v O hsz hd hcl hr hy H
  refine ⟨fun h => (by rw [h] at hr; cases hr), fun j hj => ⟨hno listed hsz hd hr j hj, ?_⟩⟩
  by_cases hji : j = i
  ·subst hji; exact ⟨oi, v, O, hi, hy, H⟩
  ·have hjp := hno listed hsz hd hr j hj
   obtain ⟨_, oj, u, U, hoj, hpj, hrest⟩ := H.2 j (ready_mono hj hji)
   obtain ⟨hjs, hjun⟩ := kO hsz hj
   obtain ⟨_, hiun⟩ := kO hsz hr
   obtain ⟨ri, hri⟩ : ∃ r, rs[i]? = some r := ⟨_, List.getElem?_eq_getElem (by rw [hC.len]; exact hip)⟩
   obtain ⟨rj, hrj⟩ : ∃ r, rs[j]? = some r := ⟨_, List.getElem?_eq_getElem (by rw [hC.len]; exact hjp)⟩
   have nij := bQ hsz hd his hiun hj
   have nji := bQ hsz hd hjs hjun hr
   obtain ⟨a1, a2, a3, a4, a5, a6, a7⟩ := (gU (hC.pair i j hip hjp (Ne.symm hji)) hi hoj hri hrj).1 nij nji
   obtain ⟨b1, b2, b3⟩ := Oper.apart_spec a1
   obtain ⟨c1, c2, c3⟩ := Oper.apart_spec a2
   have hOj : ∀ r, rs[j]? = some r → ∀ κ, cls κ ∈ r.rd → O κ = none := fun r hr2 κ hk => by
    rw [hrj] at hr2; injection hr2 with hr2; subst hr2
    cases hq : O κ with
    |none => rfl
    |some ob => exact absurd hk (a3 _ (hy.dom hri κ (by simp [hq])))
   have hji2 : ∀ d, uK rs i = some d → ri.jk = some d := fun d hd => by simpa [uK, hri] using hd
   have hjj2 : ∀ d, uK rs j = some d → rj.jk = some d := fun d hd => by simpa [uK, hrj] using hd
   have hpj' : PkN E N ops rs j oj s u U := hpj.back b1 (fun d hd => (a6 d (hji2 d hd)).1) hOj
   have hUi : ∀ r, rs[i]? = some r → ∀ κ, cls κ ∈ r.rd → U κ = none := fun r hr2 κ hk => by
    rw [hri] at hr2; injection hr2 with hr2; subst hr2
    cases hq : U κ with
    |none => rfl
    |some ob => exact absurd hk (a5 _ (hpj.dom hrj κ (by simp [hq])))
   have hcl' : tY rs (listed.setIfInBounds j true) (jO oj rs j u U s) := by
    intro k r hrk hun
    have hkj : k ≠ j := fun e => by
     subst e
     have : k < listed.size := by omega
     simp [this] at hun
    have hun0 : listed.getD k false = false := by rw [getD_set_ne false (Ne.symm hkj)] at hun; exact hun
    have hkp : k < p := by rw [← hC.len]; exact (List.getElem?_eq_some_iff.1 hrk).1
    have hks : k < ops.size := Nat.lt_of_lt_of_le hkp hC.le
    have nkj := bQ hsz hd hks hun0 hj
    have hcf := fun (r' : Rec) (hr' : rs[j]? = some r') => (gU (hC.pair k j hkp hjp hkj) (Array.getElem?_eq_getElem hks) hoj hrk hr').2 nkj
    exact ⟨fun c hc => hpj'.clean (fun r' hr' => hcl j r' hr' hjun) (fun r' hr' => (hcf r' hr').1 c hc) ((hcl k r hrk hun0).1 c hc), fun d hd => hpj'.only (fun r' hr' => hcl j r' hr' hjun) (fun r' hr' => (hcf r' hr').2 d hd) ((hcl k r hrk hun0).2 d hd)⟩
   refine ⟨oj, u, U, hoj, hpj', ?_⟩
   refine ih (listed.setIfInBounds j true) _ v O (by simpa using hsz) (hd.step hj) hcl' (ready_mono hr (Ne.symm hji)) (hy.past c1 (fun d hd => (a7 d (hjj2 d hd)).1) hUi) ?_
   rw [Array.setIfInBounds_comm _ _ hji]
   have e : jO oi rs i v O (jO oj rs j u U s) = jO oj rs j u U (jO oi rs i v O s) := by
    unfold jO eff
    rw [← lM, ← lM, ← lM, ← lM]
    rw [over_comm (O := O) (O' := U) fun κ hk => ?_]
    ·generalize over U (over O s) = z
     have p1 : ∀ (x : AV) (z : St), put (uK rs i) .junk (put oj.dst x z) = put oj.dst x (put (uK rs i) .junk z) := fun x z => St.put_comm z x .junk fun d hd he => (a6 d (hji2 d he)).2.1 hd
     have p2 : put (uK rs i) .junk (put (uK rs j) .junk z) = put (uK rs j) .junk (put (uK rs i) .junk z) := St.put_comm z .junk .junk fun d hd he => (a6 d (hji2 d he)).2.2 (hjj2 d hd)
     have p3 : ∀ (x y : AV) (z : St), put oi.dst y (put oj.dst x z) = put oj.dst x (put oi.dst y z) := fun x y z => St.put_comm z x y fun d hd he => b2 d he hd
     have p4 : ∀ (y : AV) (z : St), put oi.dst y (put (uK rs j) .junk z) = put (uK rs j) .junk (put oi.dst y z) := fun y z => St.put_comm z .junk y fun d hd he => (a7 d (hjj2 d hd)).2.1 he
     rw [p1, p3, p2, p4]
    ·cases hq : U κ with
     |none => rfl
     |some ob => exact absurd (hpj.dom hrj κ (by simp [hq])) (a4 _ (hy.dom hri κ hk))
   rw [e]
   exact hrest
def YRun (E : Env) (N : Nat) (ops : Array Oper) (rs : List Rec) (Q : List Oper → St → Prop) : Nat → Nat → List Oper → St → Prop
 | 0, k, l, s => Q l s
 |n + 1, k, [], s => False
 |n + 1, k, o :: l, s => ∃ v O, PkN E N ops rs k o s v O ∧ YRun E N ops rs Q n (k + 1) l (jO o rs k v O s)
theorem AOpX_sound {k : St → Prop} (h : SRel E N A w0 m s a w) (o : Oper) (ha : AOpX E N o.op o.dst s k) : OSat E N A w0 o a w k := by
 obtain ⟨K1, h1, h2⟩ := ha
 intro next Q hn
 refine wD h o h1 _ _ fun m' s' a' w' hS hk => ?_
 obtain ⟨s2, hw, hk2⟩ := h2 s' hk
 obtain ⟨m2, hS2⟩ := hw _ _ _ _ _ hS
 exact hn m2 s2 a' w' hS2 hk2
theorem aEX_inv {op : Op} {k : KE} (h : aEX E N op dst s k) : ∃ v O wr fr vk, k wr fr vk (eff v O (wH op) dst s) ∧ Pkc E N op dst s v O wr fr vk := by
 cases op with
 |call c =>
  obtain ⟨cal, args, argT⟩ := c
  cases cal with
  |builtin b =>
   cases b with
   |append => exact r8 rfl h
   | _ => exact h.elim
  | _ => exact h.elim
 | _ => exact h.elim
theorem X_to_Y {cl : List Nat} {Q : List Oper → St → Prop} : ∀ (n : Nat) (l : List Oper) (acc : List Rec) (s : St), o0 E N ops cl l acc Q n s →
  ∃ recs : List Rec, recs.length = n ∧ conf ops cl (acc ++ recs) (acc ++ recs).length = true ∧ YRun E N ops (acc ++ recs) Q n acc.length l s
 | 0, l, acc, s, h => by
  cases l <;> (simp only [o0] at h; exact ⟨[], rfl, by simpa using h.1, h.2⟩)
 |n + 1, [], acc, s, h => h.elim
 |n + 1, o :: l, acc, s, h => by
  obtain ⟨dst, op, ty, pos, after, g⟩ := o
  simp only [o0] at h
  split at h
  ·rename_i hw
   have hh : ∃ v O wr fr vk, (fun wr fr vk s' => o0 E N ops cl l (acc ++ [⟨yG (evs N s op.operands), wr, fr, vk, wH op⟩]) Q n s') wr fr vk (eff v O (wH op) dst s) ∧ Pkc E N op dst s v O wr fr vk := by
    cases hb : chainB op dst ops.toList with
    |true => rw [hb] at h; exact aEX_inv h
    |false => rw [hb] at h; exact aE_inv h
   obtain ⟨v, O, wr, fr, vk, h1, h2⟩ := hh
   obtain ⟨recs, hl, hc, hy⟩ := X_to_Y n l _ _ h1
   have hg : (acc ++ (⟨yG (evs N s op.operands), wr, fr, vk, wH op⟩ : Rec) :: recs)[acc.length]? = some ⟨yG (evs N s op.operands), wr, fr, vk, wH op⟩ := by simp
   refine ⟨⟨yG (evs N s op.operands), wr, fr, vk, wH op⟩ :: recs, by simp [hl], by simpa using hc, v, O, .inl ⟨hw, ⟨yG (evs N s op.operands), wr, fr, vk, wH op⟩, hg, rfl, fun c hc => hc, h2⟩, ?_⟩
   unfold jO
   rw [show uK (acc ++ (⟨yG (evs N s op.operands), wr, fr, vk, wH op⟩ : Rec) :: recs) acc.length = wH op from by simp only [uK, hg, Option.bind_some]]
   simpa using hy
  ·rename_i hw
   obtain ⟨recs, hl, hc, hy⟩ := X_to_Y n l _ _ h
   have hg : (acc ++ (⟨[], [], [], [], none⟩ : Rec) :: recs)[acc.length]? = some ⟨[], [], [], [], none⟩ := by simp
   refine ⟨⟨[], [], [], [], none⟩ :: recs, by simp [hl], by simpa using hc, xK, fun _ => none, .inr ⟨hw, rfl, rfl, _, hg, rfl⟩, ?_⟩
   unfold jO
   rw [show uK (acc ++ (⟨[], [], [], [], none⟩ : Rec) :: recs) acc.length = none from by simp only [uK, hg, Option.bind_some]]
   rw [n7, aI]
   simpa using hy
  ·exact h.elim
theorem eW {p : Nat} {Q : List Oper → St → Prop} (hC : Confs ops rs p) : ∀ (n k : Nat) (l : List Oper) (s : St), (∀ j, l[j]? = ops[k + j]?) → k + n = p → tY rs (fK ops.size k) s → YRun E N ops rs Q n k l s →
  AAnyE E N ops rs p (fun listed s => listed = fK ops.size p ∧ Q (ops.toList.drop p) s) n (fK ops.size k) s
 | 0, k, l, s, hl, hk, _, h => by
  have hk : k = p := by omega
  subst hk
  refine ⟨rfl, ?_⟩
  have : l = ops.toList.drop k := by
   apply List.ext_getElem?
   intro j
   rw [hl j, List.getElem?_drop, Array.getElem?_toList]
  rw [← this]; exact h
 |n + 1, k, [], s, hl, hk, _, h => h.elim
 |n + 1, k, o :: l, s, hl, hk, hcl, h => by
  obtain ⟨v, O, h1, h2⟩ := h
  have hkp : k < p := by omega
  have hks : k < ops.size := Nat.lt_of_lt_of_le hkp hC.le
  have h0 : ops[k]? = some o := by simpa using (hl 0).symm
  have hdn : DownC ops (fK ops.size k) := tX fun j hj => hC.ready j (by omega)
  have hkr := hC.ready k hks
  have hcl' : tY rs (fK ops.size (k + 1)) (jO o rs k v O s) := by
   intro j r hr hun
   have hjp : j < p := by rw [← hC.len]; exact (List.getElem?_eq_some_iff.1 hr).1
   have hjs : j < ops.size := Nat.lt_of_lt_of_le hjp hC.le
   rw [gP] at hun
   have hjk : k < j := by
    rcases Nat.lt_or_ge k j with h | h
    ·exact h
    ·simp at hun; omega
   have hun0 : (fK ops.size k).getD j false = false := by rw [gP]; simp; omega
   have hcf := fun (r' : Rec) (hr' : rs[k]? = some r') => (gU (hC.pair j k hjp hkp (by omega)) (Array.getElem?_eq_getElem hjs) h0 hr hr').2 (bQ (kB _ _) hdn hjs hun0 hkr)
   have hk0 := fun (r' : Rec) (hr' : rs[k]? = some r') => hcl k r' hr' (by rw [gP]; simp)
   exact ⟨fun c hc => h1.clean hk0 (fun r' hr' => (hcf r' hr').1 c hc) ((hcl j r hr hun0).1 c hc), fun d hd => h1.only hk0 (fun r' hr' => (hcf r' hr').2 d hd) ((hcl j r hr hun0).2 d hd)⟩
  refine AAnyE_first hC h0 hkp (fun _ _ h => h.1) n (fK ops.size k) s v O (kB _ _) hdn hcl hkr h1 ?_
  exact eW hC n (k + 1) l _ (fun j => by have := hl (j + 1); simpa [Nat.add_assoc, Nat.add_comm 1 j] using this) (by omega) hcl' h2
theorem fI {Q : AX → St → Prop} {p : Nat} {K : Array Bool → St → Prop} (hC : Confs ops rs p) (g : Nat) (hK : ∀ listed m s a w, SRel E N A w0 m s a w → K listed s → wpAny E.P .any ops (wZ E N A w0 Q) g listed a w) :
  ∀ (fuel : Nat) (listed : Array Bool) (m : Own) (s : St) (a : Act) (w : World), listed.size = ops.size → DownC ops listed → tY rs listed s → SRel E N A w0 m s a w →
  AAnyE E N ops rs p K fuel listed s → wpAny E.P .any ops (wZ E N A w0 Q) (fuel + g) listed a w
 | 0, listed, m, s, a, w, _, _, _, h, ha => by rw [Nat.zero_add]; exact hK listed m s a w h ha
 |fuel + 1, listed, m, s, a, w, hsz, hd, hcl, h, ha => by
  rw [show fuel + 1 + g = (fuel + g) + 1 from by omega]
  refine ⟨fun h0 => absurd h0 ha.1, fun i hi => ?_⟩
  obtain ⟨hip, o, v, O, ho, hp, hrest⟩ := ha.2 i hi
  obtain ⟨his, hiun⟩ := kO hsz hi
  have hcl' : tY rs (listed.setIfInBounds i true) (jO o rs i v O s) := by
   intro k r hrk hun
   have hki : k ≠ i := fun e => by
    subst e
    have : k < listed.size := by omega
    simp [this] at hun
   have hun0 : listed.getD k false = false := by rw [getD_set_ne false (Ne.symm hki)] at hun; exact hun
   have hkp : k < p := by rw [← hC.len]; exact (List.getElem?_eq_some_iff.1 hrk).1
   have hks : k < ops.size := Nat.lt_of_lt_of_le hkp hC.le
   have hcf := fun (r' : Rec) (hr' : rs[i]? = some r') => (gU (hC.pair k i hkp hip hki) (Array.getElem?_eq_getElem hks) ho hrk hr').2 (bQ hsz hd hks hun0 hi)
   exact ⟨fun c hc => hp.clean (fun r' hr' => hcl i r' hr' hiun) (fun r' hr' => (hcf r' hr').1 c hc) ((hcl k r hrk hun0).1 c hc), fun d hd => hp.only (fun r' hr' => hcl i r' hr' hiun) (fun r' hr' => (hcf r' hr').2 d hd) ((hcl k r hrk hun0).2 d hd)⟩
  have hnext : ∀ m' s' a' w', SRel E N A w0 m' s' a' w' → s' = jO o rs i v O s → wpAny E.P .any ops (wZ E N A w0 Q) (fuel + g) (listed.setIfInBounds i true) a' w' := by
   intro m' s' a' w' hS he
   subst he
   exact fI hC g hK fuel _ m' _ a' w' (by simpa using hsz) (hd.step hi) hcl' hS hrest
  unfold wpOp
  simp only [ho]
  rcases hp with ⟨hw, r, h2, hj, h3, h4⟩ | ⟨hw, hv, hO, r, h2, hj⟩
  ·rw [if_pos (yQ h ops o hw)]
   refine .inl (AOpX_sound h o (k := fun s' => s' = jO o rs i v O s) ?_ _ _ hnext)
   refine (h4.2 s ⟨fun _ _ => rfl, fun _ _ => rfl⟩ (hcl i r h2 hiun).1 fun d hd => (hcl i r h2 hiun).2 d (hj.trans hd)).1 _ ?_
   unfold jO
   rw [show uK rs i = wH o.op from by simp only [uK, h2, Option.bind_some, hj]]
  ·subst hv; subst hO
   rw [if_neg (by rw [yQ h ops o hw]; simp)]
   refine hnext m _ _ w (h.put o.dst xV) ?_
   unfold jO
   rw [show uK rs i = none from by simp only [uK, h2, Option.bind_some, hj], n7, aI]
theorem hY {Q : AX → St → Prop} (h : SRel E N A w0 m s a w) (ha : hZ E N ops Q s) : wpAny E.P .any ops (wZ E N A w0 Q) ops.size (Array.replicate ops.size false) a { w with drawn := w.drawn + 1 } := by
 obtain ⟨p, ex, hx⟩ := ha
 generalize hclv : rE ops.toList ++ ex = cl at hx
 obtain ⟨recs, hl, hc, hy⟩ := X_to_Y p _ _ _ hx
 simp only [List.nil_append, List.length_nil] at hc hy
 rw [hl] at hc
 simp only [conf, Bool.and_eq_true, List.all_eq_true, List.mem_range] at hc
 obtain ⟨⟨⟨⟨c1, c2⟩, c3⟩, c4⟩, c5⟩ := hc
 have hp : p ≤ ops.size := Nat.le_of_ble_eq_true c1
 have hC : Confs ops recs p := by
  refine ⟨hl, hp, fun i j hi hj hij => ?_, fun k hk => ?_, fun k hk hks => ?_, fun k hk hks i hi => ?_⟩
  ·have := c3 i hi j hj
   simp only [Bool.or_eq_true, beq_iff_eq] at this
   exact this.resolve_left hij
  ·have := (c5 k hk).1; simpa using this
  ·have := (c5 k hks).2
   rw [if_neg (by omega)] at this
   simp only [Bool.and_eq_true, Bool.or_eq_true, beq_iff_eq] at this
   exact this.1
  ·have := (c5 k hks).2
   rw [if_neg (by omega)] at this
   simp only [Bool.and_eq_true, List.all_eq_true, List.mem_range] at this
   exact this.2 i hi
 have hcl : tY recs (fK ops.size 0) (s.clean cl) := fun i r hr _ => by
  obtain ⟨d1, d2⟩ := c4 r (List.mem_of_getElem? hr)
  refine ⟨fun c hcr => NoK.clean (iS (d1 c hcr)), fun d hd => NoK.only (NoK.clean (iS ?_)) d⟩
  rw [hd] at d2; exact d2
 have hA := eW hC p 0 ops.toList (s.clean cl) (fun j => by rw [Nat.zero_add, Array.getElem?_toList]) (by omega) hcl hy
 have hS : SRel E N A w0 m (s.clean cl) a { w with drawn := w.drawn + 1 } := h.drew.clean cl
 have hW := fI (A := A) (w0 := w0) (Q := Q) hC (ops.size - p) (fun listed m s a w hS hK => by
  obtain ⟨rfl, hrun⟩ := hK
  have := uG hC.ready hC.alone (ops.toList.drop p) p (fun j => by rw [List.getElem?_drop, Array.getElem?_toList]) (Nat.le_refl _) (by simp; omega) hS hrun
  simpa using this) p _ m _ a _ (kB _ _) (tX (k := 0) fun j hj => by omega) hcl hS hA
 rw [show p + (ops.size - p) = ops.size from by omega] at hW
 exact hW
theorem x5 {Q : AX → St → Prop} {id : Nat} (h : SRel E N A w0 m s a w) (ha : hZ E N ops Q s) : (Code.region id ops true).wp E.P (wZ E N A w0 Q) a w :=
 wp_region_any E.hm (hY h ha)
theorem tB (i : Nat) : ∀ (l : List Oper) (j k : Nat), (fX i j l)[k]? = (l[k]?).map (vS i (j + k))
 | [], j, k => by simp [fX]
 |o :: l, j, 0 => by simp [fX]
 |o :: l, j, k + 1 => by
  simp only [fX, List.getElem?_cons_succ]
  rw [tB i l (j + 1) k, show j + 1 + k = j + (k + 1) from by omega]
theorem gM (i k : Nat) : (uZ i ops)[k]? = (ops[k]?).map (vS i k) := by
 unfold uZ
 rw [List.getElem?_toArray, tB, Array.getElem?_toList, Nat.zero_add]
theorem tA (i : Nat) : ∀ (l : List Oper) (j : Nat), (fX i j l).length = l.length
 | [], j => rfl
 |o :: l, j => by simp [fX, tA i l]
theorem pM (i : Nat) : (uZ i ops).size = ops.size := by simp [uZ, tA]
theorem tP (i k : Nat) (o : Oper) : (vS i k o).dst = o.dst := by unfold vS; cases (Nat.beq i k || gH o) <;> rfl
theorem oY (i k : Nat) (o : Oper) : (vS i k o).guard = o.guard := by unfold vS; cases (Nat.beq i k || gH o) <;> rfl
theorem after1_wp (i k : Nat) (o : Oper) (P : Program) (a : Act) (w : World) (K : Act → World → Prop) (Q : Exit → Act → World → Prop) : (vS i k o).wp P a w K Q = o.wp P a w K Q := by unfold vS; cases (Nat.beq i k || gH o) <;> rfl
theorem s7 (i k : Nat) (o : Oper) (P : Program) (a : Act) (w : World) : (vS i k o).asks P a w = o.asks P a w := by unfold vS; cases (Nat.beq i k || gH o) <;> rfl
theorem cK (i : Nat) (tmps : Array Value) : yielded (uZ i ops) tmps = yielded ops tmps := by
 funext g
 unfold yielded
 rw [gM]
 cases ops[g]? with
 |none => rfl
 |some o => simp only [Option.map_some, Option.bind_some, tP]
theorem sZ (i k : Nat) (P : Program) (Q : Exit → Act → World → Prop) (K : Act → World → Prop) (a : Act) (w : World) : wpOp P (uZ i ops) Q k K a w = wpOp P ops Q k K a w := by
 unfold wpOp
 rw [gM]
 cases ops[k]? with
 |none => rfl
 |some o => simp only [Option.map_some, cK, after1_wp, s7, tP]; rw [show Region.wanted (vS i k o) (yielded ops a.tmps) = Region.wanted o (yielded ops a.tmps) from by unfold Region.wanted; rw [oY]]
theorem fW (i : Nat) (listed : Array Bool) (hl : listed.getD i false = true) : Region.ready .any (uZ i ops) listed = Region.ready .any ops listed := by
 unfold Region.ready
 rw [pM]
 apply List.filter_congr
 intro k hk
 rw [gM]
 cases ops[k]? with
 |none => rfl
 |some o =>
  simp only [Option.map_some, Option.getD_some]
  congr 1
  unfold vS
  cases (Nat.beq i k || gH o) with
  |true => rfl
  |false =>
   simp only [cond_false, Array.all_push]
   rw [show (!Region.binds .any { on := i, ground := Ground.data } || listed.getD i false) = true from by rw [hl, Bool.or_true], Bool.and_true]
theorem eA (i : Nat) {P : Program} {Q : Exit → Act → World → Prop} : ∀ (fuel : Nat) (listed : Array Bool) (a : Act) (w : World), listed.getD i false = true → wpAny P .any (uZ i ops) Q fuel listed a w → wpAny P .any ops Q fuel listed a w
 | 0, listed, a, w, hl, h => ⟨by rw [← fW i listed hl]; exact h.1, h.2⟩
 |fuel + 1, listed, a, w, hl, h => by
  refine ⟨fun h0 => h.1 (by rw [fW i listed hl]; exact h0), fun k hk => ?_⟩
  have := h.2 k (by rw [fW i listed hl]; exact hk)
  rw [sZ] at this
  exact wpOp_mono (fun a w h2 => eA i fuel _ a w (getD_set_true hl) h2) this
theorem aG (π : List Nat) (l : List Oper) : ∀ (is : List Nat), (∀ i ∈ is, i < l.length) → ∀ j : Nat, (j3 π l is)[j]? = (is[j]?).bind fun i : Nat => (l[i]?).map (mvO π)
 | [], _, j => by simp [j3]
 |i :: is, h, j => by
  have hi := h i List.mem_cons_self
  rw [j3, List.getElem?_eq_getElem hi]
  cases j with
  |zero => simp [hi]
  |succ j => simpa using aG π l is (fun k hk => h k (List.mem_cons_of_mem _ hk)) j
theorem posL_no (π : List Nat) (i : Nat) (h : i ∉ π) : mV π i = π.length := by
 induction π with
 |nil => rfl
 |cons x xs ih =>
  rw [mV, nbeq_ne (fun e => h (by simp [e])), cond_false, ih fun e => h (List.mem_cons_of_mem _ e), List.length_cons]
structure Perm (π : List Nat) (ops : Array Oper) : Prop where
 len : π.length = ops.size
 lt : ∀ i ∈ π, i < ops.size
 pos : ∀ (j i : Nat), π[j]? = some i → mV π i = j
 get : ∀ i, i < ops.size → π[mV π i]? = some i
theorem permB_spec {π : List Nat} (h : permB π ops.size = true) : Perm π ops := by
 simp only [permB, Bool.and_eq_true, List.all_eq_true, List.mem_range] at h
 obtain ⟨⟨⟨h1, h2⟩, h3⟩, h4⟩ := h
 have h1 := Nat.eq_of_beq_eq_true h1
 refine ⟨h1, fun i hi => by have := h2 i hi; simpa [Nat.blt_eq] using this, fun j i hj => ?_, fun i hi => ?_⟩
 ·have hjl := (List.getElem?_eq_some_iff.1 hj).1
  have := Nat.eq_of_beq_eq_true (h3 j (by omega))
  rw [List.getD_eq_getElem?_getD, hj] at this
  exact this
 ·have := Nat.eq_of_beq_eq_true (h4 i hi)
  rw [List.getD_eq_getElem?_getD] at this
  cases hg : π[mV π i]? with
  |none => rw [hg] at this; simp at this; omega
  |some k => rw [hg] at this; simp at this; rw [this]
theorem bP {π : List Nat} (h : Perm π ops) (j : Nat) : (qS π ops)[j]? = (π[j]?).bind fun i => (ops[i]?).map (mvO π) := by
 unfold qS
 rw [List.getElem?_toArray, aG π ops.toList π (fun i hi => by simpa using h.lt i hi)]
 simp
theorem dP {π : List Nat} (h : Perm π ops) : (qS π ops).size = ops.size := by
 have e : ∀ j, (qS π ops)[j]? = none ↔ ops.size ≤ j := fun j => by
  rw [bP h]
  cases hj : π[j]? with
  |none => rw [List.getElem?_eq_none_iff] at hj; simp; rw [← h.len]; exact hj
  |some i =>
   have hi := h.lt i (List.mem_of_getElem? hj)
   have hl := (List.getElem?_eq_some_iff.1 hj).1
   simp [hi]
   rw [← h.len]; exact hl
 have e1 := (e ops.size).2 (Nat.le_refl _)
 rw [Array.getElem?_eq_none_iff] at e1
 have e2 : ¬ (qS π ops).size < ops.size := fun hh => by
  have := (e (qS π ops).size).1 (by rw [Array.getElem?_eq_none_iff]; exact Nat.le_refl _)
  omega
 omega
theorem iN {π : List Nat} (h : Perm π ops) (tmps : Array Value) (g : Nat) : yielded (qS π ops) tmps (mV π g) = yielded ops tmps g := by
 unfold yielded
 rw [bP h]
 by_cases hg : g < ops.size
 ·rw [h.get g hg, Option.bind_some, Array.getElem?_eq_getElem hg]; rfl
 ·have hn : g ∉ π := fun e => hg (h.lt g e)
  rw [posL_no π g hn, List.getElem?_eq_none (Nat.le_refl _), Array.getElem?_eq_none (by omega)]; rfl
theorem j2 {π : List Nat} (h : Perm π ops) (o : Oper) (tmps : Array Value) : Region.wanted (mvO π o) (yielded (qS π ops) tmps) = Region.wanted o (yielded ops tmps) := by
 obtain ⟨dst, op, type, pos, after, guard⟩ := o
 cases guard with
 |none => rfl
 |some g =>
  show (yielded (qS π ops) tmps (mV π g.1) == some g.2) = (yielded ops tmps g.1 == some g.2)
  rw [iN h]
theorem perm_wpOp {π : List Nat} (h : Perm π ops) {j i : Nat} (hj : π[j]? = some i) (P : Program) (Q : Exit → Act → World → Prop) (K : Act → World → Prop) (a : Act) (w : World) : wpOp P (qS π ops) Q j K a w = wpOp P ops Q i K a w := by
 unfold wpOp
 rw [bP h, hj, Option.bind_some]
 cases ops[i]? with
 |none => rfl
 |some o =>
  simp only [Option.map_some, j2 h]
  rfl
def SameL (π : List Nat) (n : Nat) (l l' : Array Bool) : Prop := l.size = n ∧ l'.size = n ∧ ∀ (j i : Nat), π[j]? = some i → l'[j]? = l[i]?
theorem dO {π : List Nat} (h : Perm π ops) {l l' : Array Bool} (hl : SameL π ops.size l l') {j i : Nat} (hj : π[j]? = some i) : j ∈ Region.ready .any (qS π ops) l' ↔ i ∈ Region.ready .any ops l := by
 have hi := h.lt i (List.mem_of_getElem? hj)
 have hjl : j < ops.size := by have := (List.getElem?_eq_some_iff.1 hj).1; rw [h.len] at this; exact this
 unfold Region.ready
 rw [List.mem_filter, List.mem_filter, List.mem_range, List.mem_range, dP h, bP h, hj, Option.bind_some, Array.getElem?_eq_getElem hi]
 have e1 : l'.getD j true = l.getD i true := by rw [Array.getD_eq_getD_getElem?, Array.getD_eq_getD_getElem?, hl.2.2 j i hj]
 have e2 : ((mvO π ops[i]).after.all fun e => !Region.binds .any e || l'.getD e.on false) = (ops[i].after.all fun e => !Region.binds .any e || l.getD e.on false) := by
  show ((ops[i].after.map (mvE π)).all fun e => !Region.binds .any e || l'.getD e.on false) = _
  rw [Array.all_map]
  congr 1
  funext e
  have eb : Region.binds .any (mvE π e) = Region.binds .any e := rfl
  have eg : l'.getD (mvE π e).on false = l.getD e.on false := by
   show l'.getD (mV π e.on) false = _
   rw [Array.getD_eq_getD_getElem?, Array.getD_eq_getD_getElem?]
   by_cases hg : e.on < ops.size
   ·rw [hl.2.2 _ _ (h.get _ hg)]
   ·have hn : e.on ∉ π := fun q => hg (h.lt _ q)
    rw [posL_no π _ hn, Array.getElem?_eq_none (by rw [hl.2.1, h.len]; exact Nat.le_refl _), Array.getElem?_eq_none (by rw [hl.1]; omega)]
  simp only [Function.comp, eb, eg]
 simp only [Option.map_some, Option.getD_some, e1, e2, hi, hjl, true_and]
theorem SameL.set {π : List Nat} (h : Perm π ops) {l l' : Array Bool} (hl : SameL π ops.size l l') {j i : Nat} (hj : π[j]? = some i) : SameL π ops.size (l.setIfInBounds i true) (l'.setIfInBounds j true) := by
 refine ⟨by simp [hl.1], by simp [hl.2.1], fun j' i' hj' => ?_⟩
 rw [Array.getElem?_setIfInBounds, Array.getElem?_setIfInBounds, hl.2.2 j' i' hj', hl.1, hl.2.1]
 have hi := h.lt i (List.mem_of_getElem? hj)
 have hjl : j < ops.size := by have := (List.getElem?_eq_some_iff.1 hj).1; rw [h.len] at this; exact this
 by_cases e : j = j'
 ·subst e
  rw [hj] at hj'
  injection hj' with hj'
  subst hj'
  simp [hi, hjl]
 ·have e2 : ¬ i = i' := fun e3 => e (by rw [← h.pos j i hj, ← h.pos j' i' hj', e3])
  simp [e, e2]
theorem perm_any {π : List Nat} (h : Perm π ops) {P : Program} {Q : Exit → Act → World → Prop} : ∀ (fuel : Nat) (l l' : Array Bool) (a : Act) (w : World), SameL π ops.size l l' → wpAny P .any (qS π ops) Q fuel l' a w → wpAny P .any ops Q fuel l a w := by
 have nil : ∀ {l l' : Array Bool}, SameL π ops.size l l' → Region.ready .any ops l = [] → Region.ready .any (qS π ops) l' = [] := fun {l l'} hl h0 => by
  apply List.eq_nil_iff_forall_not_mem.2
  intro j hj
  have hjl : j < π.length := by
   have := (mem_ready.1 hj).2
   obtain ⟨o, ho, _⟩ := this
   have := (Array.getElem?_eq_some_iff.1 ho).1
   rw [dP h] at this; rw [h.len]; exact this
  have := (dO h hl (List.getElem?_eq_getElem hjl)).1 hj
  rw [h0] at this; cases this
 have nil' : ∀ {l l' : Array Bool}, SameL π ops.size l l' → Region.ready .any (qS π ops) l' = [] → Region.ready .any ops l = [] := fun {l l'} hl h0 => by
  apply List.eq_nil_iff_forall_not_mem.2
  intro i hi
  obtain ⟨_, o, ho, _⟩ := mem_ready.1 hi
  have hil := (Array.getElem?_eq_some_iff.1 ho).1
  have := (dO h hl (h.get i hil)).2 hi
  rw [h0] at this; cases this
 intro fuel
 induction fuel with
 |zero => exact fun l l' a w hl hw => ⟨nil' hl hw.1, hw.2⟩
 |succ fuel ih =>
  intro l l' a w hl hw
  refine ⟨fun h0 => hw.1 (nil hl h0), fun i hi => ?_⟩
  obtain ⟨_, o, ho, _⟩ := mem_ready.1 hi
  have hil := (Array.getElem?_eq_some_iff.1 ho).1
  have hg := h.get i hil
  have := hw.2 _ ((dO h hl hg).2 hi)
  rw [perm_wpOp h hg] at this
  exact wpOp_mono (fun a w h2 => ih _ _ a w (hl.set h hg) h2) this
theorem cA {Q : AX → St → Prop} (h : SRel E N A w0 m s a w) : ∀ (is : List Nat) (ops : Array Oper), cB E N Q s is ops → wpAny E.P .any ops (wZ E N A w0 Q) ops.size (Array.replicate ops.size false) a { w with drawn := w.drawn + 1 }
 | [], ops, ha => hY h ha
 |i :: is, ops, ha => by
  have ha : bif Nat.beq i 1000 then permB is ops.size = true ∧ hZ E N (qS is ops) Q s else takeB ops i = true ∧ cB E N Q s is (uZ i ops) := ha
  cases hb : Nat.beq i 1000 with
  |true =>
   rw [hb] at ha
   obtain ⟨hp, ha⟩ := ha
   have hP := permB_spec hp
   have hA := hY h ha
   rw [dP hP] at hA
   refine perm_any hP _ _ _ _ _ ⟨by simp, by simp, fun j i hj => ?_⟩ hA
   have h1 := hP.lt i (List.mem_of_getElem? hj)
   have h2 : j < ops.size := by have := (List.getElem?_eq_some_iff.1 hj).1; rw [hP.len] at this; exact this
   simp [h1, h2]
  |false =>
  rw [hb] at ha
  obtain ⟨ht, ha⟩ := ha
  have hA := cA h is (uZ i ops) ha
  rw [pM] at hA
  simp only [takeB, Bool.and_eq_true] at ht
  obtain ⟨⟨⟨t1, t2⟩, t3⟩, t4⟩ := ht
  cases hi : ops[i]? with
  |none => rw [hi] at t1; cases t1
  |some o =>
   rw [hi] at t1
   simp only at t1
   have his : i < ops.size := (Array.getElem?_eq_some_iff.1 hi).1
   obtain ⟨n, hn⟩ : ∃ n, ops.size = n + 1 := ⟨ops.size - 1, by omega⟩
   have hy : ∃ v, Yields E.P ops o v a ∧ ∀ (P : Program) (w : World), (execOp a.eval o).run P w = .ok (.value v) w := by
    obtain ⟨dst, op, type, pos, after, guard⟩ := o
    unfold gH at t1
    split at t1
    ·rename_i x t e1 e2 e3
     simp only at e1 e2 e3
     subst e1 e2 e3
     have hv : ∀ (P : Program) (w : World), (execOp a.eval ⟨some t, .move x, type, pos, after, none⟩).run P w = .ok (.value (a.eval x)) w := fun P w => by simp [execOp]
     exact ⟨a.eval x, .inl ⟨rfl, hv _⟩, hv⟩
    ·rename_i x t e1 e2 e3
     simp only at e1 e2 e3
     subst e1 e2 e3
     have hv : ∀ (P : Program) (w : World), (execOp a.eval ⟨some t, .assign x, type, pos, after, none⟩).run P w = .ok (.value (a.eval x)) w := fun P w => by simp [execOp]
     exact ⟨a.eval x, .inl ⟨rfl, hv _⟩, hv⟩
    ·cases t1
   obtain ⟨v, hyv, hrun⟩ := hy
   rw [hn] at hA ⊢
   have hmem : i ∈ Region.ready .any (uZ i ops) (Array.replicate (n + 1) false) := by
    have h4 : i ∈ Region.ready .any ops (Array.replicate ops.size false) := by simpa using t4
    rw [hn] at h4
    obtain ⟨g0, o', g1, g2⟩ := mem_ready.1 h4
    exact mem_ready.2 ⟨g0, vS i i o', by rw [gM, g1]; rfl, by unfold vS; rw [nbeq_self, Bool.true_or]; exact g2⟩
   have h1 := hA.2 i hmem
   rw [sZ] at h1
   have hwant : Region.wanted o (yielded ops a.tmps) = true := by
    rcases hyv with ⟨g, _⟩ | ⟨g, _⟩
    ·exact g
    ·have hg : o.guard = none := by
      unfold gH at t1
      split at t1 <;> first | assumption | cases t1
     unfold Region.wanted at g
     rw [hg] at g
     cases g
   unfold wpOp at h1
   simp only [hi, hwant, if_true] at h1
   have h2 : wpAny E.P .any (uZ i ops) (wZ E N A w0 Q) n ((Array.replicate (n + 1) false).setIfInBounds i true) (a.put o.dst v) { w with drawn := w.drawn + 1 } := by
    rcases h1 with h1 | ⟨h1, _⟩
    ·unfold Oper.wp at h1
     rw [hrun] at h1
     exact h1
    ·rename_i hlets
     obtain ⟨a', w', hl⟩ := hlets
     exact hl.elim
   have h3 := eA i n _ _ _ (by simp; omega) h2
   exact wpAny_take hi t2 (by rw [hn] at t3; exact t3) (by rw [hn] at t4; exact t4) (fun c a w hq => hq) hyv h3
theorem ADraw_sound (ops : Array Oper) (Q : AX → St → Prop) {id : Nat} (h : SRel E N A w0 m s a w) (ha : ADraw E N ops Q s) : (Code.region id ops true).wp E.P (wZ E N A w0 Q) a w :=
 x4 ops Q h (fun hE => x5 h hE) (fun is hF => wp_region_any E.hm (cA h is ops hF)) ha
end
end Ai
end
section
namespace Ai
open Go Go.RowKit
section
variable {E : Env} {N : Nat} {A : Fr} {w0 w w' : World} {m m' : Own} {s s' : St} {a : Act} {dst : Option Tmp} {k : St → Prop}
def y4 (P : Program) (c : Code) (Q : Exit → Act → World → Prop) (a : Act) (w : World) : Prop :=
 ∀ (b : Frame) (k : List Item) (cs : List Frame), ∃ e a' w', Q e a' w' ∧ Arrives P (lone (b.at a (.code c :: .inLoop c :: k)) cs w) b k cs e a' w'
theorem f7 {P : Program} {c : Code} {Q : Exit → Act → World → Prop} {a : Act} {w : World} (h : c.wp P (Exit.then (y4 P c Q) Q) a w) : y4 P c Q a w := by
 intro b k cs
 obtain ⟨e, a₁, w₁, hq, harr⟩ := h b (.inLoop c :: k) cs
 cases e with
 |normal =>
  obtain ⟨e₂, a₂, w₂, hq₂, harr₂⟩ := hq b k cs
  exact ⟨e₂, a₂, w₂, hq₂, .of_steps (harr.trans (.one step_inLoop)) harr₂⟩
 |exit id => exact ⟨_, a₁, w₁, hq, .pass (x := .inLoop c) rfl (fun _ _ => .inl (by simp)) harr⟩
 |goto l => exact ⟨_, a₁, w₁, hq, .pass (x := .inLoop c) rfl (fun _ _ => .inl (by simp)) harr⟩
 |ret => exact ⟨_, a₁, w₁, hq, .pass (x := .inLoop c) rfl (fun _ _ => .inl (by simp)) harr⟩
 |panic ch => exact ⟨_, a₁, w₁, hq, .pass (x := .inLoop c) rfl (fun _ _ => .inl (by simp)) harr⟩
 |outgrown => exact ⟨_, a₁, w₁, hq, .pass (x := .inLoop c) rfl (fun _ _ => .inl (by simp)) harr⟩
theorem eY {P : Program} {c : Code} {Q : Exit → Act → World → Prop} {a : Act} {w : World} (h : y4 P c Q a w) : (Code.loop c).wp P Q a w := by
 intro b k cs
 obtain ⟨e, a', w', hq, harr⟩ := h b k cs
 exact ⟨e, a', w', hq, .of_steps (.one step_loop) harr⟩
theorem AW_sound (c : Code) : ∀ (Q : AX → St → Prop) {m : Own} {s : St} {a : Act} {w : World}, SRel E N A w0 m s a w → AW E N c Q s → c.wp E.P (wZ E N A w0 Q) a w := by
 induction c with
 |skip => exact fun Q m s a w h ha => wp_skip ⟨m, s, h, ha⟩
 |region id ops draw =>
  intro Q m s a w h ha
  cases draw with
  |false =>
   have ha2 : bH E N ops ops.toList Q s := ha
   refine wp_region ?_
   have heq := wpOps_eq_wpList (P := E.P) (ops := ops) (Q := wZ E N A w0 Q) ops.toList 0 (fun j => by simp)
   rw [List.range_eq_range']
   rw [show ops.size = ops.toList.length from by simp, heq]
   exact hJ ops Q _ h ha2
  |true =>
   have ha2 : ADraw E N ops Q s := ha
   exact ADraw_sound ops Q h ha2
 |seq x y ihx ihy =>
  intro Q m s a w h ha
  have ha2 : AW E N x (bY (AW E N y Q) Q) s := ha
  refine wp_seq (wp_mono (ihx _ h ha2) fun e a' w' hq => ?_)
  cases e with
  |normal =>
   obtain ⟨m', s', hS, hk⟩ := hq
   exact ihy Q hS hk
  |exit id => exact hq
  |ret => exact hq
  |goto l => exact hq.elim
  |panic ch => exact hq.elim
  |outgrown => exact hq.elim
 |cond c x y ihx ihy =>
  intro Q m s a w h ha
  have ha2 : (match ev N s c with | .d (.bool b) => (match b with | true => AW E N x Q s | false => AW E N y Q s) | _ => False) := ha
  have hc := h.ev c
  split at ha2
  ·rename_i b hb
   rw [hb] at hc
   generalize hv : a.eval c = cv at hc
   cases hc with
   |d _ _ hd => cases hd with
    |bool =>
     cases b with
     |true => exact wp_cond hv (ihx Q h ha2)
     |false => exact wp_cond hv (ihy Q h ha2)
  ·exact ha2.elim
 |block id c ih =>
  intro Q m s a w h ha
  have ha2 : AW E N c (sT id Q) s := ha
  refine wp_block (wp_mono (ih _ h ha2) fun e a' w' hq => ?_)
  cases e with
  |normal => exact hq
  |exit i =>
   obtain ⟨m', s', hS, hk⟩ := hq
   simp only [sT] at hk
   simp only [Exit.inBlock]
   by_cases hi : i = id
   ·subst hi
    rw [nbeq_self] at hk
    rw [if_pos rfl]
    exact ⟨m', s', hS, hk⟩
   ·rw [nbeq_ne hi] at hk
    rw [if_neg hi]
    exact ⟨m', s', hS, hk⟩
  |ret => exact hq
  |goto l => exact hq.elim
  |panic ch => exact hq.elim
  |outgrown => exact hq.elim
 |loop c ih =>
  intro Q m s a w h ha
  have ha2 : ALoop E N (AW E N c) Q s := ha
  unfold ALoop at ha2
  refine eY (ha2 (fun s => ∀ m a w, SRel E N A w0 m s a w → y4 E.P c (wZ E N A w0 Q) a w) ?_ m a w h)
  intro s s' K hweak hb hKR m a w hS
  obtain ⟨m', hS'⟩ := hweak A w0 m a w hS
  refine f7 (wp_mono (ih _ hS' hb) fun e a' w' hq => ?_)
  cases e with
  |normal =>
   obtain ⟨m2, s2, hS2, hk⟩ := hq
   exact hKR s2 hk m2 a' w' hS2
  |exit i => exact hq
  |ret => exact hq
  |goto l => exact hq.elim
  |panic ch => exact hq.elim
  |outgrown => exact hq.elim
 |rangeFunc f ps as1 b ihas ihb => exact fun Q m s a w h ha => False.elim ha
 |exit id => exact fun Q m s a w h ha => wp_exit ⟨m, s, h, ha⟩
 |scope b ih => exact fun Q m s a w h ha => wp_scope_straight (wp_mono (ih Q h ha) fun e a' w' hq => by cases e <;> first | exact hq | exact hq.elim)
 |label l => exact fun Q m s a w h ha => wp_label ⟨m, s, h, ha⟩
 |goto l => exact fun Q m s a w h ha => False.elim ha
 |ret => exact fun Q m s a w h ha => wp_ret ⟨m, s, h, ha⟩
 |refuse why => exact fun Q m s a w h ha => False.elim ha
end
end Ai
end
section
namespace Ai
open Go Go.RowKit
def St.init (xs : List AV) : St := { τ := fun i => xs.getD i .junk, H := fun _ => none }
def lN (E : Env) (N : Nat) (s : St) : List ResultVar → Option (List AV)
 | [] => some []
 | .tmp t :: rs => (match lN E N s rs with | some vs => some (ev N s (.tmp t) :: vs) | none => none)
 | .cell t T :: rs => (match lN E N s rs, E.Θ T with
  |some vs, some ti => (match vG s (ev N s (.tmp t)) ti.sz with
   |some cs => (match pB ti cs with | some v => some (v :: vs) | none => none)
   |none => none)
  | _, _ => none)
def jH (E : Env) (N : Nat) (s : St) (rs : List ResultVar) : Option AV :=
 match lN E N s rs with
 |some [v] => (match v with
  | .ref o 0 n => (match s.H o with | some (.ds e sz els) => some (.uq e sz (els.take n)) | _ => none)
  | .d .nil => none
  |v => fz s v)
 |some vs => (match fzs s vs with | some xs => some (.tup xs) | none => none)
 |none => none
def OwnOK (cs : List AV) : Prop := ∀ v ∈ cs, match v with
 | .uqd _ _ _ _ _ rows subs => rows.length = subs.length
 | .uq .. => True
 | .d _ => True
 | _ => False
def jD (E : Env) (N : Nat) (s : St) (rs : List ResultVar) (R : AV → Prop) : Prop :=
 match lN E N s rs with
 |some [.d .nil] => R (.d (.sl [])) ∨ ∃ e sz, R (.uq e sz [])
 |some [v] => (∃ y, FzA s v y ∧ R y) ∨ (∃ cs s1, Weak E N s s1 ∧ lN E N s1 rs = some [ownR 0 cs] ∧ OwnOK cs ∧ (∀ κ, ownH cs κ ≠ none → s1.H κ = ownH cs κ) ∧ R (.own cs))
 |some vs => ∃ ys, FzL s vs ys ∧ R (.tup ys)
 |none => False
def q6 (E : Env) (N : Nat) (s : St) (rs : List ResultVar) (R : AV → Prop) : Prop :=
 ∃ f cs s1 vs, Weak E N s s1 ∧ lN E N s1 rs = some vs ∧ vs.length ≠ 1 ∧ ownR f cs = .tup vs ∧ OwnOK cs ∧ (∀ κ, ownH cs κ ≠ none → s1.H κ = ownH cs κ) ∧ R (.ownF f cs)
def nF : List AV → Bool
 | [] => false
 |v :: vs => (match v with | .d .nil => true | _ => false) || nF vs
def retIO (E : Env) (fn : Func) (Post : AV → (Key → Option Ob) → Prop) : AX → St → Prop
 | .exit _, _ => False
 | _, s => ∃ s1, Weak E fn.ntmps s s1 ∧ (match lN E fn.ntmps s1 fn.results.toList with
  |some [v] => ∃ K : Key → Bool, Post (scrP (fun o => !K o) v) (yK K s1.H)
  |some vs => ∃ K : Key → Bool, Post (.tup (vs.map (scrP fun o => !K o))) (yK K s1.H)
  |none => False)
def retQ (E : Env) (fn : Func) (R : AV → Prop) : AX → St → Prop
 | .exit _, _ => False
 | _, s => match lN E fn.ntmps s fn.results.toList with
  |some [.agg cs] => bif yF cs then (match jH E fn.ntmps s fn.results.toList with | some r => kv r R | none => False) ∨ jD E fn.ntmps s fn.results.toList R
    else (match jH E fn.ntmps s fn.results.toList with | some r => kv r R | none => jD E fn.ntmps s fn.results.toList R)
  |some (v1 :: v2 :: vs) => bif yF (v1 :: v2 :: vs) || nF (v1 :: v2 :: vs) then (match jH E fn.ntmps s fn.results.toList with | some r => kv r R | none => jD E fn.ntmps s fn.results.toList R) ∨ q6 E fn.ntmps s fn.results.toList R
    else (match jH E fn.ntmps s fn.results.toList with | some r => kv r R | none => jD E fn.ntmps s fn.results.toList R)
  | _ => (match jH E fn.ntmps s fn.results.toList with | some r => kv r R | none => jD E fn.ntmps s fn.results.toList R)
section
variable {E : Env} {N : Nat} {A : Fr} {w0 w w' : World} {m m' : Own} {s s' : St} {a : Act} {dst : Option Tmp} {k : St → Prop}
def rU (tmps : Array Value) : ResultVar → Sem Value
 | .tmp t => pure (tmps.getD t undef)
 | .cell p t => do loadVar t (← asAddr (tmps.getD p undef))
theorem rX (fn : Func) (tmps : Array Value) : results fn tmps = (do let vs ← fn.results.mapM (rU tmps); pure (if h : vs.size = 1 then vs[0] else .tuple vs)) := by
 unfold results
 congr 2
theorem wY (h : SRel E N A w0 m s a w) : ∀ (rs : List ResultVar) (vs : List AV), lN E N s rs = some vs →
  ∃ us : List Value, (rs.mapM (rU a.tmps)).run E.P w = .ok us w ∧ vs.length = us.length ∧
   ∀ (i : Nat) (x : AV) (v : Value), vs[i]? = some x → us[i]? = some v → VRel w (okB A s.H m w) m s.H x v
 | [], vs, ho => by
  simp only [lN, Option.some.injEq] at ho
  subst ho
  exact ⟨[], by simp, rfl, by simp⟩
 | .tmp t :: rs, vs, ho => by
  simp only [lN] at ho
  split at ho
  ·rename_i vs' hvs
   simp only [Option.some.injEq] at ho
   subst ho
   obtain ⟨us, h1, h2, h3⟩ := wY h rs vs' hvs
   refine ⟨a.eval (.tmp t) :: us, ?_, by simp [h2], fun i x v hx hv => ?_⟩
   ·rw [List.mapM_cons]
    simp only [rU, Sem.run_bind, Sem.run_pure, Result.andThen_ok, h1]
    rfl
   ·cases i with
    |zero => simp at hx hv; subst hx; subst hv; exact h.ev _
    |succ i => exact h3 i x v (by simpa using hx) (by simpa using hv)
  ·cases ho
 | .cell p T :: rs, vs, ho => by
  simp only [lN] at ho
  split at ho
  ·rename_i vs' ti hvs hti
   split at ho
   ·rename_i cs hcs
    split at ho
    ·rename_i v0 hv0
     simp only [Option.some.injEq] at ho
     subst ho
     obtain ⟨us, h1, h2, h3⟩ := wY h rs vs' hvs
     obtain ⟨b, off, hp, hl, hcl⟩ := pJ h (h.ev (.tmp p)) hcs
     obtain ⟨u, hu, hr⟩ := lU (E := E) (w := w) hti b off hl hcl hv0
     refine ⟨u :: us, ?_, by simp [h2], fun i x v hx hv => ?_⟩
     ·rw [List.mapM_cons]
      have hp2 : a.tmps.getD p undef = .pointer (some ⟨b, off, none⟩) := hp
      have hu2 : (loadVar T ⟨b, off, none⟩).run E.P w = .ok u w := by
       simpa [Instr.loadAt, Instr.sureAddr] using hu
      have hg : (rU a.tmps (.cell p T)).run E.P w = .ok u w := by
       simp only [rU, Sem.run_bind, hp2, asAddr, Sem.run_pure, Result.andThen_ok, hu2]
      simp only [Sem.run_bind, hg, Result.andThen_ok, h1, Sem.run_pure]
     ·cases i with
      |zero => simp at hx hv; subst hx; subst hv; exact hr
      |succ i => exact h3 i x v (by simpa using hx) (by simpa using hv)
    ·cases ho
   ·cases ho
  ·cases ho
theorem j7 (h : SRel E N A w0 m s a w) {B : Nat → Prop} (hB : ∀ b, A b → B b ∨ w0.heap.size ≤ b) (fn : Func) {r : AV} (ho : jH E N s fn.results.toList = some r) :
  ∃ v, (results fn a.tmps).run E.P w = .ok v w ∧ mK w0 w B r v := by
 unfold jH at ho
 have hokall : ∀ b, okB A s.H m w b → b < w.heap.size ∧ (B b ∨ w0.heap.size ≤ b) := fun b hb => ⟨hb.1, hB b hb.2.2⟩
 have hown : true = true → ∀ o p, s.H o ≠ none → m o = some p → p.1 < w.heap.size ∧ (B p.1 ∨ w0.heap.size ≤ p.1) := fun _ o p ho hp => ⟨xQ h ho hp, .inr (own_ge h ho hp)⟩
 have hres : ∀ us : List Value, (fn.results.toList.mapM (rU a.tmps)).run E.P w = .ok us w → (results fn a.tmps).run E.P w = .ok (if h : us.toArray.size = 1 then us.toArray[0] else .tuple us.toArray) w := by
  intro us hus
  rw [rX, Array.mapM_eq_mapM_toList]
  simp only [Sem.run_bind, Sem.run_map, Sem.run_pure, hus, Result.andThen_ok]
 split at ho
 ·rename_i v hv
  obtain ⟨us, h1, h2, h3⟩ := wY h _ _ hv
  have hl1 : us.length = 1 := by simpa using h2.symm
  obtain ⟨u, rfl⟩ : ∃ u, us = [u] := by
   match us, hl1 with
   | [u], _ => exact ⟨u, rfl⟩
  have hrel := h3 0 v u rfl rfl
  refine ⟨u, hres _ h1, ?_⟩
  split at ho
  ·rename_i o n
   split at ho
   ·rename_i e sz els hH
    simp only [Option.some.injEq] at ho
    subst ho
    cases hrel with
    |ref _ _ _ e3 sz3 els3 b full cap hH3 hn hmo hcap hnc =>
     rw [hH] at hH3
     injection hH3 with hH3
     injection hH3 with i1 i2 i3
     subst i1; subst i2; subst i3
     have hcf := hcap rfl
     subst hcf
     obtain ⟨hmn, _⟩ | ⟨b', full', cur, hm', hbb, hcur, hlen, hmax, hszc, hcells⟩ := h.objs o _ hH
     ·rw [hmo] at hmn; cases hmn
     ·rw [hmo] at hm'
      injection hm' with hm'
      injection hm' with e1 e2
      subst e1; subst e2
      have hll : (els.take n).length = n := by simp; omega
      refine .inr ⟨b, cap, cur, by rw [hll, Nat.zero_mul], hbb, hcur, by omega, hmax, hszc, fun j c hj => ?_⟩
      have hj2 : els[j]? = some c := by
       have hjn : j < n := by have := (List.getElem?_eq_some_iff.1 hj).1; omega
       rw [List.getElem?_take, if_pos hjn] at hj; exact hj
      refine ⟨(hcells j c hj2).1, fun i d hi => ?_⟩
      obtain ⟨u, hu, hr⟩ := (hcells j c hj2).2 i d hi
      refine ⟨u, hu, hr.mono fun x hx => ⟨⟨hokall x hx, ?_⟩, rfl⟩⟩
      intro hxb
      exact hx.2.1 o (by simp [hH]) _ hmo hxb.symm
    |ref0 _ e3 sz3 hH3 hmo =>
     rw [hH] at hH3
     injection hH3 with hH3
     injection hH3 with i1 i2 i3
     subst i3
     exact .inl ⟨by simp, rfl⟩
   ·cases ho
  ·cases ho
  ·have := oH h hokall (B := true) hown (fun _ => rfl) hrel ho
   unfold mK
   cases r <;> first | exact this | (cases this)
 ·rename_i vs hne hv
  split at ho
  ·rename_i xs hxs
   simp only [Option.some.injEq] at ho
   subst ho
   obtain ⟨us, h1, h2, h3⟩ := wY h _ _ hv
   have hl1 : us.length ≠ 1 := by
    intro he
    rw [he] at h2
    match vs, h2 with
    | [v], _ => exact hne v rfl
   refine ⟨.tuple us.toArray, ?_, ?_⟩
   ·rw [hres _ h1, dif_neg (by simpa using hl1)]
   ·obtain ⟨g1, g2⟩ := oF _ _ hxs
    refine .tup xs us.toArray (by simp; omega) fun i c u hc hu => ?_
    obtain ⟨c0, h4, h5⟩ := g2 i c hc
    exact oH h hokall (B := true) hown (fun _ => rfl) (h3 i c0 u h4 (by simpa using hu)) h5
  ·cases ho
 ·cases ho
theorem scrPL_id {p : Key → Bool} : ∀ {l : List AV}, (∀ c ∈ l, scrP p c = c) → scrPL p l = l
 | [], _ => rfl
 |v :: vs, h => by simp only [scrPL]; rw [h v List.mem_cons_self, scrPL_id fun c hc => h c (List.mem_cons_of_mem _ hc)]
theorem aA {p : Key → Bool} : ∀ {l : List AV}, scrPL p l = l → ∀ c ∈ l, scrP p c = c
 | [], _, c, hc => by cases hc
 |v :: vs, h, c, hc => by
  simp only [scrPL, List.cons.injEq] at h
  rcases List.mem_cons.1 hc with rfl | hc
  ·exact h.1
  ·exact aA h.2 c hc
theorem wrap_scr {p : Key → Bool} : ∀ (f : Nat) {l : List AV}, scrPL p l = l → scrP p (jT f l) = jT f l
 | 0, l, h => by simp only [jT, scrP]; rw [h]
 | 1, l, h => by
  match l, h with
  | [], h => rfl
  | [x], h =>
   have h : [scrP p x] = [x] := by simpa [scrPL] using h
   exact (List.cons.inj h).1
  |x :: y :: l, h => show AV.tup (scrPL p (x :: y :: l)) = .tup (x :: y :: l); rw [h]
 |k + 2, l, h => by
  have hc := aA h
  simp only [jT, scrP, scrPL]
  rw [scrPL_id fun c hm => hc c (List.mem_of_mem_take hm), scrPL_id fun c hm => hc c (List.mem_of_mem_drop hm)]
theorem own_closed {cs : List AV} (hok : OwnOK cs) : (∀ κ ob, ownH cs κ = some ob → scrPO (fun o => !(ownH cs o).isSome) ob = ob) ∧ ∀ f, scrP (fun o => !(ownH cs o).isSome) (ownR f cs) = ownR f cs := by
  constructor
  · intro κ ob hob
    cases κ with
    | n kk =>
      have hob0 := hob
      simp only [ownH] at hob
      cases hlt : Nat.blt kk 900 with
      | true => rw [hlt] at hob; cases hob
      | false =>
        rw [hlt] at hob
        simp only [cond_false] at hob
        split at hob
        · injection hob with hob; subst hob; rfl
        · rename_i e sz cc e2 sz2 rows subs hc
          injection hob with hob; subst hob
          simp only [scrPO, Ob.rs.injEq, true_and]
          have hl : rows.length = subs.length := hok _ (List.mem_of_getElem? hc)
          refine List.ext_getElem? fun j => ?_
          rw [List.getElem?_map]
          cases hj : (ownRows kk cc rows subs)[j]? with
          | none => rfl
          | some row =>
            simp only [Option.map_some, Option.some.injEq]
            simp only [ownRows, List.getElem?_mapIdx, Option.map_eq_some_iff] at hj
            obtain ⟨row0, hrow, rfl⟩ := hj
            refine scrPL_id fun c hcm => ?_
            rcases List.mem_or_eq_of_mem_set hcm with hcm | rfl
            · obtain ⟨x, _, rfl⟩ := List.mem_map.1 hcm
              rfl
            · have hjl : j < subs.length := by rw [← hl]; exact (List.getElem?_eq_some_iff.1 hrow).1
              have : ownH cs (.s kk j) = some (.ds e2 sz2 subs[j]) := by
                simp only [ownH, hlt, cond_false, hc, List.getElem?_eq_getElem hjl, Option.map_some]
              simp only [scrP, this, Option.isSome_some, Bool.not_true, cond_false]
        · cases hob
    | s o j =>
      simp only [ownH] at hob
      cases hlt : Nat.blt o 900 with
      | true => rw [hlt] at hob; cases hob
      | false =>
        rw [hlt] at hob
        simp only [cond_false] at hob
        split at hob
        · obtain ⟨q, hq, rfl⟩ := Option.map_eq_some_iff.1 hob
          rfl
        · cases hob
    | l n => cases hob
  · intro f
    unfold ownR
    refine wrap_scr f ?_
    have gen : ∀ (l : List AV) (i : Nat), (∀ v ∈ l, match v with | .uqd _ _ _ _ _ rows subs => rows.length = subs.length | .uq .. => True | .d _ => True | _ => False) → (∀ j v, l[j]? = some v → cs[i + j]? = some v) → scrPL (fun o => !(ownH cs o).isSome) (ownR1 (900 + i) l) = ownR1 (900 + i) l := by
      intro l
      induction l with
      | nil => intro i _ _; rfl
      | cons v vs ih =>
        intro i hm hg
        have h0 := hg 0 v rfl
        have hv := hm v List.mem_cons_self
        have hrest := ih (i + 1) (fun x hx => hm x (List.mem_cons_of_mem _ hx)) (fun j v hj => by rw [show i + 1 + j = i + (j + 1) from by omega]; exact hg (j + 1) v hj)
        have hnl : Nat.blt (900 + i) 900 = false := by
          cases hb : Nat.blt (900 + i) 900 with
          | false => rfl
          | true => have : 900 + i < 900 := by simpa [Nat.blt_eq] using hb
                    omega
        simp only [Nat.add_zero] at h0
        simp only [ownR1, scrPL]
        rw [show 900 + i + 1 = 900 + (i + 1) from by omega, hrest]
        congr 1
        cases v with
        | d x => rfl
        | uq e sz els =>
          have : ownH cs (.n (900 + i)) = some (.ds e sz els) := by simp only [ownH, hnl, cond_false, Nat.add_sub_cancel_left, h0]
          simp only [scrP, this, Option.isSome_some, Bool.not_true, cond_false]
        | uqd e sz c e2 sz2 rows subs =>
          have : ownH cs (.n (900 + i)) = some (.rs e sz (ownRows (900 + i) c rows subs)) := by simp only [ownH, hnl, cond_false, Nat.add_sub_cancel_left, h0]
          simp only [scrP, this, Option.isSome_some, Bool.not_true, cond_false]
        | _ => exact hv.elim
    exact gen cs 0 hok (fun j v hj => by rw [Nat.zero_add]; exact hj)
theorem jW (fn : Func) (w : World) (tmps : Array Value) (us : List Value) (hus : (fn.results.toList.mapM (rU tmps)).run E.P w = .ok us w) : (results fn tmps).run E.P w = .ok (if h : us.toArray.size = 1 then us.toArray[0] else .tuple us.toArray) w := by
 rw [rX, Array.mapM_eq_mapM_toList]
 simp only [Sem.run_bind, Sem.run_map, Sem.run_pure, hus, Result.andThen_ok]
theorem j6 (h1 : SRel E N A w0 m s a w) {B : Nat → Prop} (hB : ∀ b, A b → B b ∨ w0.heap.size ≤ b) {f : Nat} {cs : List AV} {u : Value} (hok : OwnOK cs) (hH : ∀ κ, ownH cs κ ≠ none → s.H κ = ownH cs κ)
  (hrel : VRel w (okB A s.H m w) m s.H (ownR f cs) u) : mK w0 w B (.ownF f cs) u := by
 obtain ⟨c1, c2⟩ := own_closed hok
 have hD := h1.toH.drop (fun o => (ownH cs o).isSome)
 have heq : yK (fun o => (ownH cs o).isSome) s.H = ownH cs := by
  funext κ
  cases hq : ownH cs κ with
  |none => rw [bS (by rw [hq]; rfl)]
  |some ob =>
   rw [wW (by rw [hq]; rfl), hH κ (by rw [hq]; simp), hq]
   simp only [Option.map_some, Option.some.injEq]
   exact c1 κ ob hq
 have hv2 := hrel.scr (p := fun o => !(ownH cs o).isSome) (m' := m) (H' := yK (fun o => (ownH cs o).isSome) s.H) (fun b hb => ⟨lP (K := fun o => (ownH cs o).isSome) hb, rfl⟩) vX
 rw [heq] at hD hv2
 rw [c2] at hv2
 have hokb : ∀ b, okB A (ownH cs) m w b → okB (fun x => x < w.heap.size ∧ (B x ∨ w0.heap.size ≤ x)) (ownH cs) m w b ∧ w.heap[b]? = w.heap[b]? := fun b hb => ⟨⟨hb.1, hb.2.1, hb.1, hB b hb.2.2⟩, rfl⟩
 exact ⟨m, fun o ob hob => (hD.objs o ob hob).mono hokb (Like.refl _ _) rfl (fun _ _ => rfl), hD.inj, hv2.mono hokb (Like.refl _ _)⟩
theorem q5 (h : SRel E N A w0 m s a w) {B : Nat → Prop} (hB : ∀ b, A b → B b ∨ w0.heap.size ≤ b) (fn : Func) {R : AV → Prop} (ho : q6 E N s fn.results.toList R) :
  ∃ v r, (results fn a.tmps).run E.P w = .ok v w ∧ R r ∧ mK w0 w B r v := by
 obtain ⟨f, cs, s1, vs, hw, hout, hl, he, hok, hH, hR⟩ := ho
 obtain ⟨m1, h1⟩ := hw A w0 m a w h
 obtain ⟨us, g1, g2, g3⟩ := wY h1 _ _ hout
 refine ⟨.tuple us.toArray, .ownF f cs, by rw [jW fn w _ _ g1, dif_neg (by simp; omega)], hR, j6 h1 hB hok hH ?_⟩
 rw [he]
 exact .tup vs us.toArray (by simp; omega) fun i c u hc hu => g3 i c u hc (by simpa using hu)
theorem q7 (h : SRel E N A w0 m s a w) {B : Nat → Prop} (hB : ∀ b, A b → B b ∨ w0.heap.size ≤ b) (fn : Func) {R : AV → Prop} (ho : jD E N s fn.results.toList R) :
  ∃ v r, (results fn a.tmps).run E.P w = .ok v w ∧ R r ∧ mK w0 w B r v := by
 have hokall : ∀ b, okB A s.H m w b → b < w.heap.size ∧ (B b ∨ w0.heap.size ≤ b) := fun b hb => ⟨hb.1, hB b hb.2.2⟩
 have hown : true = true → ∀ o p, s.H o ≠ none → m o = some p → p.1 < w.heap.size ∧ (B p.1 ∨ w0.heap.size ≤ p.1) := fun _ o p ho hp => ⟨xQ h ho hp, .inr (own_ge h ho hp)⟩
 unfold jD at ho
 split at ho
 ·rename_i hv
  obtain ⟨us, h1, h2, h3⟩ := wY h _ _ hv
  have hl1 : us.length = 1 := by simpa using h2.symm
  obtain ⟨u, rfl⟩ : ∃ u, us = [u] := by
   match us, hl1 with
   | [u], _ => exact ⟨u, rfl⟩
  have hu : u = .slice none 0 0 := by
   have := h3 0 _ u rfl rfl
   cases this with
   |d _ _ hd => cases hd; rfl
  subst hu
  rcases ho with ho | ⟨e, sz, ho⟩
  ·exact ⟨_, _, jW fn w _ _ h1, ho, .d _ _ (.sl0 _ _)⟩
  ·exact ⟨_, _, jW fn w _ _ h1, ho, .inl ⟨rfl, rfl⟩⟩
 ·rename_i v _ hv
  rcases ho with ⟨y, hy, hR⟩ | ⟨cs, s1, hw, hout, hok, hH, hR⟩
  ·obtain ⟨us, h1, h2, h3⟩ := wY h _ _ hv
   have hl1 : us.length = 1 := by simpa using h2.symm
   obtain ⟨u, rfl⟩ : ∃ u, us = [u] := by
    match us, hl1 with
    | [u], _ => exact ⟨u, rfl⟩
   have hrel := oK h hokall (B := true) hown rfl (h3 0 v u rfl rfl) hy
   refine ⟨u, y, jW fn w _ _ h1, hR, ?_⟩
   unfold mK
   cases y <;> first | exact hrel | cases hrel
  ·obtain ⟨m1, h1⟩ := hw A w0 m a w h
   obtain ⟨us, g1, g2, g3⟩ := wY h1 _ _ hout
   have hl1 : us.length = 1 := by simpa using g2.symm
   obtain ⟨u, rfl⟩ : ∃ u, us = [u] := by
    match us, hl1 with
    | [u], _ => exact ⟨u, rfl⟩
   have hrel := g3 0 _ u rfl rfl
   exact ⟨u, .ownF 0 cs, jW fn w _ _ g1, hR, j6 h1 hB hok hH hrel⟩
 ·rename_i vs _ hne hv
  obtain ⟨ys, hys, hR⟩ := ho
  obtain ⟨us, h1, h2, h3⟩ := wY h _ _ hv
  have hl1 : us.length ≠ 1 := by
   intro he
   rw [he] at h2
   match vs, h2 with
   | [v], _ => exact hne v rfl
  refine ⟨.tuple us.toArray, .tup ys, by rw [jW fn w _ _ h1, dif_neg (by simpa using hl1)], hR, ?_⟩
  obtain ⟨g1, g2⟩ := oI _ _ hys
  refine .tup ys us.toArray (by simp; omega) fun i c u hc hu => ?_
  obtain ⟨c0, h4, h5⟩ := g2 i c hc
  exact oK h hokall (B := true) hown rfl (h3 i c0 u h4 (by simpa using hu)) h5
 ·exact ho.elim
theorem r3 {A : Nat → Prop} {f : FuncId} {fn : Func} {c : Code} {as1 : List AV} {R : AV → Prop} {vs : Array Value} (hf : E.P.funcs[f]? = some fn) (hb : fn.body = some c) (hN : Nat.ble as1.length fn.ntmps = true)
  (h : AW E fn.ntmps c (retQ E fn R) (St.init as1)) (hI : E.I w) (hr : ARel w A as1 vs) :
  Calls E.P f vs w fun e w' => ∃ v, e = .returned v ∧ ∃ r, R r ∧ Below w.heap.size w w' ∧ mK w w' A r v := by
 have hN' : as1.length ≤ fn.ntmps := Nat.le_of_ble_eq_true hN
 have hsz : vs.size ≤ fn.ntmps := by rw [← hr.1]; exact hN'
 refine calls_of_wp hf hb ?_
 have hS : SRel E fn.ntmps ⟨fun b => A b ∨ w.heap.size ≤ b, fun _ => False, fun _ => none, fun _ => none⟩ w (fun _ => none) (St.init as1) { tmps := vs ++ Array.replicate (fn.ntmps - vs.size) undef, defers := [] } w := by
  refine ⟨by simp; omega, rfl, Below.refl _ _, hI, fun i hi => ?_, fun o ob ho => by simp [St.init] at ho, fun o o' p p' ho => by simp [St.init] at ho, fun b hb => .inl (.inr hb), fun b hb => hb.elim, fun n hn => absurd rfl hn⟩
  by_cases hlt : i < as1.length
  ·have h1 : as1[i]? = some as1[i] := List.getElem?_eq_getElem hlt
   have hlv : i < vs.size := by rw [← hr.1]; exact hlt
   have := hr.2 i as1[i] vs[i] h1 (Array.getElem?_eq_getElem hlv)
   have e1 : (St.init as1).τ i = as1[i] := by simp [St.init, List.getD, h1]
   have e2 : (vs ++ Array.replicate (fn.ntmps - vs.size) undef).getD i undef = vs[i] := by
    rw [Array.getD_eq_getD_getElem?, Array.getElem?_append_left hlv, Array.getElem?_eq_getElem hlv]; rfl
   rw [e1]
   show VRel _ _ _ _ _ ((vs ++ Array.replicate (fn.ntmps - vs.size) undef).getD i undef)
   rw [e2]
   exact this.lift fun b hb => ⟨hb.1, fun o ho => by simp [St.init] at ho, .inl hb.2⟩
  ·have e1 : (St.init as1).τ i = .junk := by simp [St.init, List.getD, List.getElem?_eq_none (Nat.le_of_not_lt hlt)]
   rw [e1]; exact .junk _
 refine wp_mono (AW_sound c _ hS h) fun e a' w' hq => ?_
 cases e with
 |normal =>
  obtain ⟨m', s', hS', hk⟩ := hq
  refine ⟨hS'.defers, ?_⟩
  have fin : (match jH E fn.ntmps s' fn.results.toList with | some r => kv r R | none => False) ∨ jD E fn.ntmps s' fn.results.toList R ∨ q6 E fn.ntmps s' fn.results.toList R := by
   have hk2 : (match lN E fn.ntmps s' fn.results.toList with
    |some [.agg cs] => bif yF cs then (match jH E fn.ntmps s' fn.results.toList with | some r => kv r R | none => False) ∨ jD E fn.ntmps s' fn.results.toList R
      else (match jH E fn.ntmps s' fn.results.toList with | some r => kv r R | none => jD E fn.ntmps s' fn.results.toList R)
    |some (v1 :: v2 :: vs) => bif yF (v1 :: v2 :: vs) || nF (v1 :: v2 :: vs) then (match jH E fn.ntmps s' fn.results.toList with | some r => kv r R | none => jD E fn.ntmps s' fn.results.toList R) ∨ q6 E fn.ntmps s' fn.results.toList R
      else (match jH E fn.ntmps s' fn.results.toList with | some r => kv r R | none => jD E fn.ntmps s' fn.results.toList R)
    | _ => (match jH E fn.ntmps s' fn.results.toList with | some r => kv r R | none => jD E fn.ntmps s' fn.results.toList R)) := hk
   have both : (match jH E fn.ntmps s' fn.results.toList with | some r => kv r R | none => jD E fn.ntmps s' fn.results.toList R) → (match jH E fn.ntmps s' fn.results.toList with | some r => kv r R | none => False) ∨ jD E fn.ntmps s' fn.results.toList R ∨ q6 E fn.ntmps s' fn.results.toList R := by
    intro h
    split at h
    ·exact .inl h
    ·exact .inr (.inl h)
   split at hk2
   ·rename_i cs _
    cases hq : yF cs with
    |true =>
     rw [hq] at hk2
     rcases hk2 with hk2 | hk2
     ·exact .inl hk2
     ·exact .inr (.inl hk2)
    |false => rw [hq] at hk2; exact both hk2
   ·rename_i v1 v2 vs _
    cases hq : yF (v1 :: v2 :: vs) || nF (v1 :: v2 :: vs) with
    |true =>
     rw [hq] at hk2
     rcases hk2 with hk2 | hk2
     ·exact both hk2
     ·exact .inr (.inr hk2)
    |false => rw [hq] at hk2; exact both hk2
   ·exact both hk2
  rcases fin with hk2 | hk2 | hk2
  ·split at hk2
   ·rename_i r ho
    rw [yR] at hk2
    obtain ⟨v, hv, hrr⟩ := j7 hS' (B := A) (fun b hb => hb) fn ho
    exact ⟨v, hv, v, rfl, r, hk2, hS'.below, hrr⟩
   ·exact hk2.elim
  ·obtain ⟨v, r, hv, hR, hrr⟩ := q7 hS' (B := A) (fun b hb => hb) fn hk2
   exact ⟨v, hv, v, rfl, r, hR, hS'.below, hrr⟩
  ·obtain ⟨v, r, hv, hR, hrr⟩ := q5 hS' (B := A) (fun b hb => hb) fn hk2
   exact ⟨v, hv, v, rfl, r, hR, hS'.below, hrr⟩
 |ret =>
  obtain ⟨m', s', hS', hk⟩ := hq
  refine ⟨hS'.defers, ?_⟩
  have fin : (match jH E fn.ntmps s' fn.results.toList with | some r => kv r R | none => False) ∨ jD E fn.ntmps s' fn.results.toList R ∨ q6 E fn.ntmps s' fn.results.toList R := by
   have hk2 : (match lN E fn.ntmps s' fn.results.toList with
    |some [.agg cs] => bif yF cs then (match jH E fn.ntmps s' fn.results.toList with | some r => kv r R | none => False) ∨ jD E fn.ntmps s' fn.results.toList R
      else (match jH E fn.ntmps s' fn.results.toList with | some r => kv r R | none => jD E fn.ntmps s' fn.results.toList R)
    |some (v1 :: v2 :: vs) => bif yF (v1 :: v2 :: vs) || nF (v1 :: v2 :: vs) then (match jH E fn.ntmps s' fn.results.toList with | some r => kv r R | none => jD E fn.ntmps s' fn.results.toList R) ∨ q6 E fn.ntmps s' fn.results.toList R
      else (match jH E fn.ntmps s' fn.results.toList with | some r => kv r R | none => jD E fn.ntmps s' fn.results.toList R)
    | _ => (match jH E fn.ntmps s' fn.results.toList with | some r => kv r R | none => jD E fn.ntmps s' fn.results.toList R)) := hk
   have both : (match jH E fn.ntmps s' fn.results.toList with | some r => kv r R | none => jD E fn.ntmps s' fn.results.toList R) → (match jH E fn.ntmps s' fn.results.toList with | some r => kv r R | none => False) ∨ jD E fn.ntmps s' fn.results.toList R ∨ q6 E fn.ntmps s' fn.results.toList R := by
    intro h
    split at h
    ·exact .inl h
    ·exact .inr (.inl h)
   split at hk2
   ·rename_i cs _
    cases hq : yF cs with
    |true =>
     rw [hq] at hk2
     rcases hk2 with hk2 | hk2
     ·exact .inl hk2
     ·exact .inr (.inl hk2)
    |false => rw [hq] at hk2; exact both hk2
   ·rename_i v1 v2 vs _
    cases hq : yF (v1 :: v2 :: vs) || nF (v1 :: v2 :: vs) with
    |true =>
     rw [hq] at hk2
     rcases hk2 with hk2 | hk2
     ·exact both hk2
     ·exact .inr (.inr hk2)
    |false => rw [hq] at hk2; exact both hk2
   ·exact both hk2
  rcases fin with hk2 | hk2 | hk2
  ·split at hk2
   ·rename_i r ho
    rw [yR] at hk2
    obtain ⟨v, hv, hrr⟩ := j7 hS' (B := A) (fun b hb => hb) fn ho
    exact ⟨v, hv, v, rfl, r, hk2, hS'.below, hrr⟩
   ·exact hk2.elim
  ·obtain ⟨v, r, hv, hR, hrr⟩ := q7 hS' (B := A) (fun b hb => hb) fn hk2
   exact ⟨v, hv, v, rfl, r, hR, hS'.below, hrr⟩
  ·obtain ⟨v, r, hv, hR, hrr⟩ := q5 hS' (B := A) (fun b hb => hb) fn hk2
   exact ⟨v, hv, v, rfl, r, hR, hS'.below, hrr⟩
 |exit i =>
  obtain ⟨m', s', hS', hk⟩ := hq
  exact hk.elim
 |goto l => exact hq.elim
 |panic ch => exact hq.elim
 |outgrown => exact hq.elim
theorem callsTo_of_AW {f : FuncId} {fn : Func} {c : Code} {as1 : List AV} {R : AV → Prop} (hf : E.P.funcs[f]? = some fn) (hb : fn.body = some c) (hn : (fn.name == "runtime.NumGoroutine") = false) (hN : Nat.ble as1.length fn.ntmps = true)
  (h : AW E fn.ntmps c (retQ E fn R) (St.init as1)) : CallsTo E f as1 R := by
 intro w A vs hI hr
 have hrun : (callFunc f vs).run E.P w = .ok (.enter f vs) w := by
  simp only [callFunc, Sem.run_bind, run_program, Result.andThen_ok, hf, hn, hb]
  rfl
 unfold Invokes
 rw [hrun]
 exact (r3 hf hb hN h hI hr).mono fun e w' ⟨v, he, hp⟩ => ⟨v, he, hp⟩
theorem aS {fn : Func} {Post : AV → (Key → Option Ob) → Prop} (h : SRel E fn.ntmps A w0 m s a w) (ho : retIO E fn Post .ret s) :
  ∃ v, (results fn a.tmps).run E.P w = .ok v w ∧ ∃ r H1 m1, Post r H1 ∧ HRel E A w0 m1 H1 w ∧ VRel w (okB A H1 m1 w) m1 H1 r v := by
 obtain ⟨s1, hw, ho⟩ := ho
 obtain ⟨m1, h1⟩ := hw A w0 m a w h
 split at ho
 ·rename_i v hv
  obtain ⟨K, hP⟩ := ho
  obtain ⟨us, g1, g2, g3⟩ := wY h1 _ _ hv
  have hl1 : us.length = 1 := by simpa using g2.symm
  obtain ⟨u, rfl⟩ : ∃ u, us = [u] := by
   match us, hl1 with
   | [u], _ => exact ⟨u, rfl⟩
  exact ⟨u, jW fn w _ _ g1, _, _, m1, hP, h1.toH.drop K, (g3 0 _ u rfl rfl).scr (fun b hb => ⟨lP hb, rfl⟩) vX⟩
 ·rename_i vs hne hv
  obtain ⟨K, hP⟩ := ho
  obtain ⟨us, g1, g2, g3⟩ := wY h1 _ _ hv
  have hl1 : us.length ≠ 1 := by
   intro he
   rw [he] at g2
   match vs, g2 with
   | [v], _ => exact hne v rfl
  refine ⟨.tuple us.toArray, by rw [jW fn w _ _ g1, dif_neg (by simpa using hl1)], _, _, m1, hP, h1.toH.drop K, ?_⟩
  refine .tup _ us.toArray (by simp; omega) fun i c u hc hu => ?_
  rw [List.getElem?_map] at hc
  obtain ⟨c0, hc0, rfl⟩ := Option.map_eq_some_iff.1 hc
  exact (g3 i c0 u hc0 (by simpa using hu)).scr (fun b hb => ⟨lP hb, rfl⟩) vX
 ·exact ho.elim
theorem io_of_AW {f : FuncId} {fn : Func} {c : Code} {as1 : List AV} {H0 : Key → Option Ob} {Post : AV → (Key → Option Ob) → Prop} (hf : E.P.funcs[f]? = some fn) (hb : fn.body = some c) (hn : (fn.name == "runtime.NumGoroutine") = false) (hN : Nat.ble as1.length fn.ntmps = true)
  (h : AW E fn.ntmps c (retIO E fn Post) ⟨fun i => as1.getD i .junk, H0⟩) : IOCall E f as1 H0 Post := by
 intro w0 A m w vs hH hl hr
 have hrun : (callFunc f vs).run E.P w = .ok (.enter f vs) w := by
  simp only [callFunc, Sem.run_bind, run_program, Result.andThen_ok, hf, hn, hb]
  rfl
 unfold Invokes
 rw [hrun]
 have hN' : as1.length ≤ fn.ntmps := Nat.le_of_ble_eq_true hN
 have hsz : vs.size ≤ fn.ntmps := by rw [← hl]; exact hN'
 refine calls_of_wp hf hb ?_
 have hS : SRel E fn.ntmps A w0 m ⟨fun i => as1.getD i .junk, H0⟩ { tmps := vs ++ Array.replicate (fn.ntmps - vs.size) undef, defers := [] } w := by
  refine ⟨by simp; omega, rfl, hH.below, hH.inv, fun i hi => ?_, hH.objs, hH.inj, hH.hA, hH.fr, hH.pin⟩
  by_cases hlt : i < as1.length
  ·have h1 : as1[i]? = some as1[i] := List.getElem?_eq_getElem hlt
   have hlv : i < vs.size := by rw [← hl]; exact hlt
   have := hr i as1[i] vs[i] h1 (Array.getElem?_eq_getElem hlv)
   have e1 : as1.getD i .junk = as1[i] := by simp [List.getD, h1]
   have e2 : (vs ++ Array.replicate (fn.ntmps - vs.size) undef).getD i undef = vs[i] := by
    rw [Array.getD_eq_getD_getElem?, Array.getElem?_append_left hlv, Array.getElem?_eq_getElem hlv]; rfl
   show VRel _ _ _ _ (as1.getD i .junk) ((vs ++ Array.replicate (fn.ntmps - vs.size) undef).getD i undef)
   rw [e1, e2]
   exact this
  ·have e1 : as1.getD i .junk = .junk := by simp [List.getD, List.getElem?_eq_none (Nat.le_of_not_lt hlt)]
   show VRel _ _ _ _ (as1.getD i .junk) _
   rw [e1]; exact .junk _
 refine wp_mono (AW_sound c _ hS h) fun e a' w' hq => ?_
 cases e with
 |normal =>
  obtain ⟨m', s', hS', hk⟩ := hq
  refine ⟨hS'.defers, ?_⟩
  obtain ⟨v, hv, hp⟩ := aS hS' hk
  exact ⟨v, hv, v, rfl, hp⟩
 |ret =>
  obtain ⟨m', s', hS', hk⟩ := hq
  refine ⟨hS'.defers, ?_⟩
  obtain ⟨v, hv, hp⟩ := aS hS' hk
  exact ⟨v, hv, v, rfl, hp⟩
 |exit i =>
  obtain ⟨m', s', hS', hk⟩ := hq
  exact hk.elim
 |goto l => exact hq.elim
 |panic ch => exact hq.elim
 |outgrown => exact hq.elim
end
end Ai
end
section
namespace Ai
open Go Go.RowKit
section
variable {E : Env} {N : Nat} {A : Fr} {w0 w w' : World} {m m' : Own} {s s' s1 : St} {a : Act}
def pW : List (Nat × AV) → St → St
 | [], s => s
 |(t, v) :: l, s => put (some t) v (pW l s)
def oks : List (Nat × AV) → St → Prop
 | [], _ => True
 |(t, v) :: l, s => s.τ t = v ∧ oks l s
def pV : List (Key × Ob) → St → St
 | [], s => s
 |(t, v) :: l, s => (pV l s).setH t v
def okh : List (Key × Ob) → St → Prop
 | [], _ => True
 |(t, v) :: l, s => s.H t = some v ∧ okh l s
theorem put_eq {t : Nat} {v : AV} (h : s.τ t = v) : put (some t) v s = s := by
 cases s with
 |mk τ H =>
  simp only [put, St.mk.injEq, and_true]
  funext i
  by_cases hi : i = t
  ·subst hi; rw [nbeq_self]; exact h.symm
  ·rw [nbeq_ne hi]; rfl
theorem setH_eq {t : Key} {v : Ob} (h : s.H t = some v) : s.setH t v = s := by
 cases s with
 |mk τ H =>
  simp only [St.setH, St.mk.injEq, true_and]
  funext i
  by_cases hi : i = t
  ·subst hi; rw [zD]; exact h.symm
  ·rw [zB hi]; rfl
theorem lJ : ∀ {l : List (Nat × AV)}, oks l s → pW l s = s
 | [], _ => rfl
 |(t, v) :: l, h => by
  simp only [pW]
  rw [lJ h.2]
  exact put_eq h.1
theorem lC : ∀ {l : List (Key × Ob)}, okh l s → pV l s = s
 | [], _ => rfl
 |(t, v) :: l, h => by
  simp only [pV]
  rw [lC h.2]
  exact setH_eq h.1
theorem Weak.refl : Weak E N s s := fun A w0 m a w h => ⟨m, h⟩
theorem yU {α : Type} {body : (AX → St → Prop) → St → Prop} {Q : AX → St → Prop} (l : α → List (Nat × AV)) (o : α → List (Key × Ob)) (μ : α → Nat) (pre : α → Prop) (x0 : α)
  (hw : Weak E N s s1) (h0 : oks (l x0) s1) (h1 : okh (o x0) s1) (hp : pre x0)
  (step : ∀ x τ H, pre x → body (bY (fun s' => ∃ x', pre x' ∧ μ x' < μ x ∧ oks (l x') s' ∧ okh (o x') s') Q) (pW (l x) (pV (o x) ⟨τ, H⟩))) : ALoop E N body Q s := by
 unfold ALoop
 intro R hR
 have main : ∀ n x s, μ x < n → pre x → oks (l x) s → okh (o x) s → R s := by
  intro n
  induction n with
  |zero => intro x s h; omega
  |succ n ih =>
   intro x s hn hp h0 h1
   have hs := step x s.τ s.H hp
   have e : pW (l x) (pV (o x) ⟨s.τ, s.H⟩) = s := by
    rw [show (⟨s.τ, s.H⟩ : St) = s from rfl, lC h1, lJ h0]
   rw [e] at hs
   exact hR s s _ Weak.refl hs fun t ⟨x', hp', hlt, h0', h1'⟩ => ih x' t (by omega) hp' h0' h1'
 -- the first round comes behind the change
 have hs := step x0 s1.τ s1.H hp
 have e : pW (l x0) (pV (o x0) ⟨s1.τ, s1.H⟩) = s1 := by
  rw [show (⟨s1.τ, s1.H⟩ : St) = s1 from rfl, lC h1, lJ h0]
 rw [e] at hs
 exact hR s s1 _ hw hs fun t ⟨x', hp', hlt, h0', h1'⟩ => main (μ x' + 1) x' t (by omega) hp' h0' h1'
theorem weak_nil (t : Nat) (κ : Key) (e : TypeId) (sz : Nat) (h : s.τ t = .d .nil) (hκ : ∀ n, κ ≠ .l n := by intro n h; cases h) : Weak E N s (put (some t) (.ref κ 0 0) (s.new κ (.ds e sz []))) := by
 intro A w0 m a w hS
 have hS1 : SRel E N A w0 (wB m κ none) (s.new κ (.ds e sz [])) a w := by
  refine hS.change κ (fun i => rfl) (fun o hne => ?_) (fun o hne => yV m _ hne) hS.below (fun Z b hb => ⟨⟨hb.1, fun o ho p hp => ?_, hb.2.2⟩, rfl⟩) (fun _ _ _ _ _ => rfl) (fun ob hob => ?_) (fun _ o hne ho p p' hp hp' => ?_) (fun n hn => absurd hn (hκ n))
  ·simp [St.new, St.setH, St.kill, zB hne]
  ·by_cases hne : o = κ
   ·subst hne; rw [zI] at hp; cases hp
   ·rw [yV m _ hne] at hp
    refine hb.2.1 o (fun hh => ho ?_) p hp
    simp [St.new, St.setH, St.kill, zB hne, hh]
  ·have : ob = .ds e sz [] := by simp [St.new, St.setH, zD, scrPO] at hob; exact hob.symm
   subst this; exact .inl ⟨zI _ _ _, rfl⟩
  ·rw [zI] at hp; cases hp
 refine ⟨wB m κ none, hS1.size, hS1.defers, hS1.below, hS1.inv, fun i hi => ?_, hS1.objs, hS1.inj, hS1.hA, hS1.fr, hS1.pin⟩
 by_cases hit : i = t
 ·subst hit
  have hv := hS.tmps i hi
  rw [h] at hv
  generalize a.tmps.getD i undef = u at hv
  simp only [put, nbeq_self, cond_true]
  cases hv with
  |d _ _ hd => cases hd with
   |nil => exact .ref0 κ e sz (by simp [St.new, St.setH, zD, scrPO]) (zI _ _ _)
 ·simp only [put, nbeq_ne hit, cond_false]
  exact hS1.tmps i hi
theorem Weak.trans {s2 : St} (h1 : Weak E N s s1) (h2 : Weak E N s1 s2) : Weak E N s s2 := fun A w0 m a w h => by
 obtain ⟨m1, h1⟩ := h1 A w0 m a w h
 exact h2 A w0 m1 a w h1
theorem cT (x y : Key) (hx : ∀ n, x ≠ .l n) (hy : ∀ n, y ≠ .l n) : Weak E N s (s.swap x y) := fun A w0 m a w h => by
 refine ⟨_, h.sw x y fun n hn hs => ?_⟩
 have e1 : swp x y (.l n) = .l n := by
  unfold swp
  rw [zB (Ne.symm (hx n)), zB (Ne.symm (hy n))]; rfl
 show some (m (swp x y (.l n))) = A.pin n
 simp only [swH, e1] at hs
 rw [e1]
 exact h.pin n hn (fun hh => hs (by rw [hh]; rfl))
theorem qE (k l : Nat) : Weak E N s (s.swap (.n k) (.n l)) := cT _ _ (fun n h => by cases h) (fun n h => by cases h)
theorem lA (k o j : Nat) : Weak E N s (s.swap (.n k) (.s o j)) := cT _ _ (fun n h => by cases h) (fun n h => by cases h)
def OwnAt (s : St) : Nat → List AV → Prop
 | _, [] => True
 |i, v :: vs => (match v with
  | .uq e sz els => s.H (.n i) = some (.ds e sz els)
  | .uqd e sz c e2 sz2 rows subs => s.H (.n i) = some (.rs e sz (ownRows i c rows subs)) ∧ ∀ j q, subs[j]? = some q → s.H (.s i j) = some (.ds e2 sz2 q)
  | _ => True) ∧ OwnAt s (i + 1) vs
theorem mX : ∀ (l : List AV) (b i : Nat) (v : AV), OwnAt s b l → l[i]? = some v → (match v with
  | .uq e sz els => s.H (.n (b + i)) = some (.ds e sz els)
  | .uqd e sz c e2 sz2 rows subs => s.H (.n (b + i)) = some (.rs e sz (ownRows (b + i) c rows subs)) ∧ ∀ j q, subs[j]? = some q → s.H (.s (b + i) j) = some (.ds e2 sz2 q)
  | _ => True)
 | [], b, i, v, _, h => by simp at h
 |x :: xs, b, 0, v, ha, h => by
  simp at h; subst h
  exact ha.1
 |x :: xs, b, i + 1, v, ha, h => by
  have := mX xs (b + 1) i v ha.2 (by simpa using h)
  rw [show b + 1 + i = b + (i + 1) from by omega] at this
  exact this
theorem iP {cs : List AV} (h : OwnAt s 900 cs) : ∀ κ, ownH cs κ ≠ none → s.H κ = ownH cs κ := by
 intro κ hκ
 have hge : ∀ kk, Nat.blt kk 900 = false → 900 ≤ kk := fun kk hlt => by
  rcases Nat.lt_or_ge kk 900 with h1 | h1
  ·have : Nat.blt kk 900 = true := by simpa [Nat.blt_eq] using h1
   rw [this] at hlt; cases hlt
  ·exact h1
 cases κ with
 |n kk =>
  cases hlt : Nat.blt kk 900 with
  |true => simp only [ownH, hlt] at hκ; exact absurd rfl hκ
  |false =>
   have g := hge kk hlt
   cases hc : cs[kk - 900]? with
   |none => simp only [ownH, hlt, cond_false, hc] at hκ; exact absurd rfl hκ
   |some v =>
    have := mX cs 900 (kk - 900) v h hc
    rw [show 900 + (kk - 900) = kk from by omega] at this
    simp only [ownH, hlt, cond_false, hc] at hκ ⊢
    cases v <;> first | exact this | exact this.1 | exact absurd rfl hκ
 |s o j =>
  cases hlt : Nat.blt o 900 with
  |true => simp only [ownH, hlt] at hκ; exact absurd rfl hκ
  |false =>
   have g := hge o hlt
   cases hc : cs[o - 900]? with
   |none => simp only [ownH, hlt, cond_false, hc] at hκ; exact absurd rfl hκ
   |some v =>
    have := mX cs 900 (o - 900) v h hc
    rw [show 900 + (o - 900) = o from by omega] at this
    simp only [ownH, hlt, cond_false, hc] at hκ ⊢
    cases v <;> first | exact absurd rfl hκ | skip
    rename_i e sz c e2 sz2 rows subs
    cases hj : subs[j]? with
    |none => simp only [hj, Option.map_none] at hκ; exact absurd rfl hκ
    |some q => simp only [hj, Option.map_some]; exact this.2 j q hj
 |l n => exact absurd rfl hκ
def fN : List (Nat × (Nat → Option Ob)) → St → St
 | [], s => s
 |(o, f) :: l, s => { fN l s with H := fun κ => match κ with | .s o' j => bif Nat.beq o' o then f j else (fN l s).H κ | κ => (fN l s).H κ }
def okf : List (Nat × (Nat → Option Ob)) → St → Prop
 | [], _ => True
 |(o, f) :: l, s => (∀ j, s.H (.s o j) = f j) ∧ okf l s
theorem rS : ∀ {l : List (Nat × (Nat → Option Ob))}, okf l s → fN l s = s
 | [], _ => rfl
 |(o, f) :: l, h => by
  simp only [fN]
  rw [rS h.2]
  cases s with
  |mk τ H =>
   simp only [St.mk.injEq, true_and]
   funext κ
   cases κ with
   |s o' j =>
    simp only
    by_cases ho : o' = o
    ·subst ho; rw [nbeq_self]; exact (h.1 j).symm
    ·rw [nbeq_ne ho]; rfl
   |n k => rfl
   |l k => rfl
theorem aloopF {α : Type} {body : (AX → St → Prop) → St → Prop} {Q : AX → St → Prop} (l : α → List (Nat × AV)) (o : α → List (Key × Ob)) (f : α → List (Nat × (Nat → Option Ob))) (μ : α → Nat) (pre : α → Prop) (x0 : α)
  (hw : Weak E N s s1) (h0 : oks (l x0) s1) (h1 : okh (o x0) s1) (h2 : okf (f x0) s1) (hp : pre x0)
  (step : ∀ x τ H, pre x → body (bY (fun s' => ∃ x' s2, Weak E N s' s2 ∧ pre x' ∧ μ x' < μ x ∧ oks (l x') s2 ∧ okh (o x') s2 ∧ okf (f x') s2) Q) (pW (l x) (pV (o x) (fN (f x) ⟨τ, H⟩)))) : ALoop E N body Q s := by
 unfold ALoop
 intro R hR
 have main : ∀ n x s s2, μ x < n → pre x → Weak E N s s2 → oks (l x) s2 → okh (o x) s2 → okf (f x) s2 → R s := by
  intro n
  induction n with
  |zero => intro x s s2 h; omega
  |succ n ih =>
   intro x s s2 hn hp hw h0 h1 h2
   have hs := step x s2.τ s2.H hp
   have e : pW (l x) (pV (o x) (fN (f x) ⟨s2.τ, s2.H⟩)) = s2 := by
    rw [show (⟨s2.τ, s2.H⟩ : St) = s2 from rfl, rS h2, lC h1, lJ h0]
   rw [e] at hs
   exact hR s s2 _ hw hs fun t ⟨x', s3, hw', hp', hlt, h0', h1', h2'⟩ => ih x' t s3 (by omega) hp' hw' h0' h1' h2'
 exact main (μ x0 + 1) x0 s s1 (by omega) hp hw h0 h1 h2
theorem vC (o κ : Key) (e e2 : TypeId) (sz i : Nat) (cs : List AV) (hκ : ∀ n, κ ≠ .l n) (hne : o ≠ κ) (hH : s.H o = some (.vs e cs)) (hi : cs[i]? = some (.d .nil)) :
  Weak E N s (((s.kill κ).setH κ (.rs e2 sz [])).setH o (.vs e ((scrPL (isK κ) cs).set i (.dref κ 0)))) := by
 intro A w0 m a w hS
 have hS1 : SRel E N A w0 (wB m κ none) ((s.kill κ).setH κ (.rs e2 sz [])) a w := by
  refine hS.change κ (fun i => rfl) (fun o hne => ?_) (fun o hne => yV m _ hne) hS.below (fun Z b hb => ⟨⟨hb.1, fun o ho p hp => ?_, hb.2.2⟩, rfl⟩) (fun _ _ _ _ _ => rfl) (fun ob hob => ?_) (fun _ o hne ho p p' hp hp' => ?_) (fun n hn => absurd hn (hκ n))
  ·simp [St.setH, St.kill, zB hne]
  ·by_cases hne : o = κ
   ·subst hne; rw [zI] at hp; cases hp
   ·rw [yV m _ hne] at hp
    refine hb.2.1 o (fun hh => ho ?_) p hp
    simp [St.setH, St.kill, zB hne, hh]
  ·have : ob = .rs e2 sz [] := by simp [St.setH, zD] at hob; exact hob.symm
   subst this; exact .inl ⟨zI _ _ _, rfl⟩
  ·rw [zI] at hp; cases hp
 refine ⟨wB m κ none, ?_⟩
 generalize hs1 : (s.kill κ).setH κ (.rs e2 sz []) = s1 at hS1
 have hH1 : s1.H o = some (.vs e (scrPL (isK κ) cs)) := by
  rw [← hs1]
  simp [St.setH, St.kill, zB hne, hH, scrPO]
 have hi1 : (scrPL (isK κ) cs)[i]? = some (.d .nil) := by rw [wS, hi]; rfl
 have hκ1 : s1.H κ = some (.rs e2 sz []) := by rw [← hs1]; simp [St.setH, zD]
 generalize scrPL (isK κ) cs = cs1 at hH1 hi1
 have hlike : Like s1.H (s1.setH o (.vs e (cs1.set i (.dref κ 0)))).H (wB m κ none) (wB m κ none) := by
  refine ⟨fun o2 e2 cs2 h2 => ?_, fun o2 e2 sz2 els2 h2 => ?_, fun o2 e2 sz2 els2 h2 => ?_, fun o2 ag2 ps2 h2 => ⟨⟨ps2, by simp [St.setH, zB (show o2 ≠ o from fun e => by subst e; rw [hH1] at h2; cases h2), h2]⟩, rfl⟩⟩
  ·by_cases h : o2 = o
   ·subst h
    rw [hH1] at h2; injection h2 with h2; injection h2 with i1 i2; subst i1
    exact ⟨⟨_, by simp [St.setH, zD]; rfl⟩, rfl⟩
   ·exact ⟨⟨cs2, by simp [St.setH, zB h, h2]⟩, rfl⟩
  ·by_cases h : o2 = o
   ·subst h; rw [hH1] at h2; injection h2 with h2; cases h2
   ·exact ⟨⟨els2, by simp [St.setH, zB h, h2], rfl⟩, rfl⟩
  ·by_cases h : o2 = o
   ·subst h; rw [hH1] at h2; injection h2 with h2; cases h2
   ·exact ⟨⟨els2, by simp [St.setH, zB h, h2], rfl⟩, rfl⟩
 obtain ⟨b, full, cur, hm, hbb, hcur, hsz, hc⟩ := hS1.objs o _ hH1
 have hok : ∀ k, okB A s1.H (wB m κ none) w k → okB A (s1.setH o (.vs e (cs1.set i (.dref κ 0)))).H (wB m κ none) w k ∧ w.heap[k]? = w.heap[k]? := by
  intro k hk
  refine ⟨⟨hk.1, fun o2 ho2 p hp => hk.2.1 o2 ?_ p hp, hk.2.2⟩, rfl⟩
  by_cases h : o2 = o
  ·subst h; simp [hH1]
  ·simpa [St.setH, zB h] using ho2
 refine hS1.update o _ (.vs e (cs1.set i (.dref κ 0))) hH1 hlike b full hm hS1.below rfl (fun _ _ => rfl) ⟨b, full, cur, hm, hbb, hcur, by simpa using hsz, fun j c hj => ?_⟩ (fun _ _ _ => ⟨_, _, rfl⟩)
 rw [List.getElem?_set] at hj
 split at hj
 ·rename_i hij
  subst hij
  split at hj
  ·injection hj with hj; subst hj
   obtain ⟨u, hu, hv⟩ := hc i _ hi1
   refine ⟨u, hu, ?_⟩
   cases hv with
   |d _ _ hd => cases hd with
    |nil => exact .dref0 κ e2 sz (by simp [St.setH, zB (Ne.symm hne), hκ1]) (zI _ _ _)
  ·cases hj
 ·obtain ⟨u, hu, hv⟩ := hc j c hj
  exact ⟨u, hu, hv.mono hok hlike⟩
end
end Ai
end
section
set_option maxRecDepth 100000
namespace Ai
open Go Go.Proofs
abbrev ti2 : TI := ⟨1, false, 8, [.int .i64 0], .int .i64⟩
theorem tf2 : TFact Tryz.prog 2 ti2 := ⟨⟨Tryz.t2, (match Tryz.t2.zero with | some z => z | none => undef), by kernel_rfl, by kernel_rfl, by kernel_rfl, by kernel_rfl, by kernel_rfl⟩, by kernel_rfl, by kernel_rfl, ⟨Tryz.t2.desc, by kernel_rfl, by kernel_rfl⟩, (by kernel_rfl : Tryz.prog.underlying 2 = some (.int .i64))⟩
abbrev ti3 : TI := ⟨1, false, 8, [.int .i64 0], .int .i64⟩
theorem tf3 : TFact Tryz.prog 3 ti3 := ⟨⟨Tryz.t3, (match Tryz.t3.zero with | some z => z | none => undef), by kernel_rfl, by kernel_rfl, by kernel_rfl, by kernel_rfl, by kernel_rfl⟩, by kernel_rfl, by kernel_rfl, ⟨Tryz.t3.desc, by kernel_rfl, by kernel_rfl⟩, (by kernel_rfl : Tryz.prog.underlying 3 = some (.int .i64))⟩
abbrev ti4 : TI := ⟨1, false, 1, [.bool false], .bool⟩
theorem tf4 : TFact Tryz.prog 4 ti4 := ⟨⟨Tryz.t4, (match Tryz.t4.zero with | some z => z | none => undef), by kernel_rfl, by kernel_rfl, by kernel_rfl, by kernel_rfl, by kernel_rfl⟩, by kernel_rfl, by kernel_rfl, ⟨Tryz.t4.desc, by kernel_rfl, by kernel_rfl⟩, (by kernel_rfl : Tryz.prog.underlying 4 = some (.bool))⟩
abbrev ti5 : TI := ⟨1, false, 1, [.int .u8 0], .int .u8⟩
theorem tf5 : TFact Tryz.prog 5 ti5 := ⟨⟨Tryz.t5, (match Tryz.t5.zero with | some z => z | none => undef), by kernel_rfl, by kernel_rfl, by kernel_rfl, by kernel_rfl, by kernel_rfl⟩, by kernel_rfl, by kernel_rfl, ⟨Tryz.t5.desc, by kernel_rfl, by kernel_rfl⟩, (by kernel_rfl : Tryz.prog.underlying 5 = some (.int .u8))⟩
abbrev ti6 : TI := ⟨1, false, 1, [.int .u8 0], .int .u8⟩
theorem tf6 : TFact Tryz.prog 6 ti6 := ⟨⟨Tryz.t6, (match Tryz.t6.zero with | some z => z | none => undef), by kernel_rfl, by kernel_rfl, by kernel_rfl, by kernel_rfl, by kernel_rfl⟩, by kernel_rfl, by kernel_rfl, ⟨Tryz.t5.desc, by kernel_rfl, by kernel_rfl⟩, (by kernel_rfl : Tryz.prog.underlying 6 = some (.int .u8))⟩
abbrev ti7 : TI := ⟨4, true, 24, [.int .i64 0, .int .i64 0, .bool false, .int .u8 0], .struct [(0, 2), (1, 3), (2, 4), (3, 6)]⟩
theorem tf7 : TFact Tryz.prog 7 ti7 := ⟨⟨Tryz.t7, (match Tryz.t7.zero with | some z => z | none => undef), by kernel_rfl, by kernel_rfl, by kernel_rfl, by kernel_rfl, by kernel_rfl⟩, by kernel_rfl, by kernel_rfl, ⟨Tryz.t7.desc, by kernel_rfl, by kernel_rfl⟩, ⟨(match Tryz.t7.desc with | .struct F => F | _ => #[]), by kernel_rfl, by kernel_rfl⟩⟩
abbrev ti8 : TI := ⟨4, true, 24, [.int .i64 0, .int .i64 0, .bool false, .int .u8 0], .struct [(0, 2), (1, 3), (2, 4), (3, 6)]⟩
theorem tf8 : TFact Tryz.prog 8 ti8 := ⟨⟨Tryz.t8, (match Tryz.t8.zero with | some z => z | none => undef), by kernel_rfl, by kernel_rfl, by kernel_rfl, by kernel_rfl, by kernel_rfl⟩, by kernel_rfl, by kernel_rfl, ⟨Tryz.t7.desc, by kernel_rfl, by kernel_rfl⟩, ⟨(match Tryz.t7.desc with | .struct F => F | _ => #[]), by kernel_rfl, by kernel_rfl⟩⟩
abbrev ti9 : TI := ⟨1, false, 16, [.str []], .str⟩
theorem tf9 : TFact Tryz.prog 9 ti9 := ⟨⟨Tryz.t9, (match Tryz.t9.zero with | some z => z | none => undef), by kernel_rfl, by kernel_rfl, by kernel_rfl, by kernel_rfl, by kernel_rfl⟩, by kernel_rfl, by kernel_rfl, ⟨Tryz.t9.desc, by kernel_rfl, by kernel_rfl⟩, (by kernel_rfl : Tryz.prog.underlying 9 = some (.string))⟩
abbrev ti10 : TI := ⟨1, false, 16, [.str []], .str⟩
theorem tf10 : TFact Tryz.prog 10 ti10 := ⟨⟨Tryz.t10, (match Tryz.t10.zero with | some z => z | none => undef), by kernel_rfl, by kernel_rfl, by kernel_rfl, by kernel_rfl, by kernel_rfl⟩, by kernel_rfl, by kernel_rfl, ⟨Tryz.t9.desc, by kernel_rfl, by kernel_rfl⟩, (by kernel_rfl : Tryz.prog.underlying 10 = some (.string))⟩
abbrev ti11 : TI := ⟨1, false, 16, [.str []], .str⟩
theorem tf11 : TFact Tryz.prog 11 ti11 := ⟨⟨Tryz.t11, (match Tryz.t11.zero with | some z => z | none => undef), by kernel_rfl, by kernel_rfl, by kernel_rfl, by kernel_rfl, by kernel_rfl⟩, by kernel_rfl, by kernel_rfl, ⟨Tryz.t9.desc, by kernel_rfl, by kernel_rfl⟩, (by kernel_rfl : Tryz.prog.underlying 11 = some (.string))⟩
abbrev ti12 : TI := ⟨1, false, 8, [.int .u64 0], .int .u64⟩
theorem tf12 : TFact Tryz.prog 12 ti12 := ⟨⟨Tryz.t12, (match Tryz.t12.zero with | some z => z | none => undef), by kernel_rfl, by kernel_rfl, by kernel_rfl, by kernel_rfl, by kernel_rfl⟩, by kernel_rfl, by kernel_rfl, ⟨Tryz.t12.desc, by kernel_rfl, by kernel_rfl⟩, (by kernel_rfl : Tryz.prog.underlying 12 = some (.int .u64))⟩
abbrev ti13 : TI := ⟨2, true, 24, [.str [], .int .u64 0], .struct [(0, 9), (1, 12)]⟩
theorem tf13 : TFact Tryz.prog 13 ti13 := ⟨⟨Tryz.t13, (match Tryz.t13.zero with | some z => z | none => undef), by kernel_rfl, by kernel_rfl, by kernel_rfl, by kernel_rfl, by kernel_rfl⟩, by kernel_rfl, by kernel_rfl, ⟨Tryz.t13.desc, by kernel_rfl, by kernel_rfl⟩, ⟨(match Tryz.t13.desc with | .struct F => F | _ => #[]), by kernel_rfl, by kernel_rfl⟩⟩
abbrev ti14 : TI := ⟨2, true, 24, [.str [], .int .u64 0], .struct [(0, 9), (1, 12)]⟩
theorem tf14 : TFact Tryz.prog 14 ti14 := ⟨⟨Tryz.t14, (match Tryz.t14.zero with | some z => z | none => undef), by kernel_rfl, by kernel_rfl, by kernel_rfl, by kernel_rfl, by kernel_rfl⟩, by kernel_rfl, by kernel_rfl, ⟨Tryz.t13.desc, by kernel_rfl, by kernel_rfl⟩, ⟨(match Tryz.t13.desc with | .struct F => F | _ => #[]), by kernel_rfl, by kernel_rfl⟩⟩
abbrev ti21 : TI := ⟨1, false, 4, [.int .i32 0], .int .i32⟩
theorem tf21 : TFact Tryz.prog 21 ti21 := ⟨⟨Tryz.t21, (match Tryz.t21.zero with | some z => z | none => undef), by kernel_rfl, by kernel_rfl, by kernel_rfl, by kernel_rfl, by kernel_rfl⟩, by kernel_rfl, by kernel_rfl, ⟨Tryz.t21.desc, by kernel_rfl, by kernel_rfl⟩, (by kernel_rfl : Tryz.prog.underlying 21 = some (.int .i32))⟩
abbrev ti22 : TI := ⟨1, false, 24, [.nil], .slice 103⟩
theorem tf22 : TFact Tryz.prog 22 ti22 := ⟨⟨Tryz.t22, (match Tryz.t22.zero with | some z => z | none => undef), by kernel_rfl, by kernel_rfl, by kernel_rfl, by kernel_rfl, by kernel_rfl⟩, by kernel_rfl, by kernel_rfl, ⟨Tryz.t22.desc, by kernel_rfl, by kernel_rfl⟩, (by kernel_rfl : Tryz.prog.underlying 22 = some (.slice 103))⟩
abbrev ti23 : TI := ⟨4, true, 48, [.int .i64 0, .int .i64 0, .int .i64 0, .nil], .struct [(0, 3), (1, 3), (2, 3), (3, 22)]⟩
theorem tf23 : TFact Tryz.prog 23 ti23 := ⟨⟨Tryz.t23, (match Tryz.t23.zero with | some z => z | none => undef), by kernel_rfl, by kernel_rfl, by kernel_rfl, by kernel_rfl, by kernel_rfl⟩, by kernel_rfl, by kernel_rfl, ⟨Tryz.t23.desc, by kernel_rfl, by kernel_rfl⟩, ⟨(match Tryz.t23.desc with | .struct F => F | _ => #[]), by kernel_rfl, by kernel_rfl⟩⟩
abbrev ti24 : TI := ⟨4, true, 48, [.int .i64 0, .int .i64 0, .int .i64 0, .nil], .struct [(0, 3), (1, 3), (2, 3), (3, 22)]⟩
theorem tf24 : TFact Tryz.prog 24 ti24 := ⟨⟨Tryz.t24, (match Tryz.t24.zero with | some z => z | none => undef), by kernel_rfl, by kernel_rfl, by kernel_rfl, by kernel_rfl, by kernel_rfl⟩, by kernel_rfl, by kernel_rfl, ⟨Tryz.t23.desc, by kernel_rfl, by kernel_rfl⟩, ⟨(match Tryz.t23.desc with | .struct F => F | _ => #[]), by kernel_rfl, by kernel_rfl⟩⟩
abbrev ti25 : TI := ⟨1, false, 24, [.nil], .slice 3⟩
theorem tf25 : TFact Tryz.prog 25 ti25 := ⟨⟨Tryz.t25, (match Tryz.t25.zero with | some z => z | none => undef), by kernel_rfl, by kernel_rfl, by kernel_rfl, by kernel_rfl, by kernel_rfl⟩, by kernel_rfl, by kernel_rfl, ⟨Tryz.t25.desc, by kernel_rfl, by kernel_rfl⟩, (by kernel_rfl : Tryz.prog.underlying 25 = some (.slice 3))⟩
abbrev ti29 : TI := ⟨1, false, 24, [.nil], .slice 104⟩
theorem tf29 : TFact Tryz.prog 29 ti29 := ⟨⟨Tryz.t29, (match Tryz.t29.zero with | some z => z | none => undef), by kernel_rfl, by kernel_rfl, by kernel_rfl, by kernel_rfl, by kernel_rfl⟩, by kernel_rfl, by kernel_rfl, ⟨Tryz.t29.desc, by kernel_rfl, by kernel_rfl⟩, (by kernel_rfl : Tryz.prog.underlying 29 = some (.slice 104))⟩
abbrev ti30 : TI := ⟨4, true, 48, [.int .i64 0, .int .i64 0, .int .i64 0, .nil], .struct [(0, 3), (1, 3), (2, 3), (3, 29)]⟩
theorem tf30 : TFact Tryz.prog 30 ti30 := ⟨⟨Tryz.t30, (match Tryz.t30.zero with | some z => z | none => undef), by kernel_rfl, by kernel_rfl, by kernel_rfl, by kernel_rfl, by kernel_rfl⟩, by kernel_rfl, by kernel_rfl, ⟨Tryz.t30.desc, by kernel_rfl, by kernel_rfl⟩, ⟨(match Tryz.t30.desc with | .struct F => F | _ => #[]), by kernel_rfl, by kernel_rfl⟩⟩
abbrev ti31 : TI := ⟨4, true, 48, [.int .i64 0, .int .i64 0, .int .i64 0, .nil], .struct [(0, 3), (1, 3), (2, 3), (3, 29)]⟩
theorem tf31 : TFact Tryz.prog 31 ti31 := ⟨⟨Tryz.t31, (match Tryz.t31.zero with | some z => z | none => undef), by kernel_rfl, by kernel_rfl, by kernel_rfl, by kernel_rfl, by kernel_rfl⟩, by kernel_rfl, by kernel_rfl, ⟨Tryz.t30.desc, by kernel_rfl, by kernel_rfl⟩, ⟨(match Tryz.t30.desc with | .struct F => F | _ => #[]), by kernel_rfl, by kernel_rfl⟩⟩
abbrev ti49 : TI := ⟨2, true, 40, [.str [], .nil], .struct [(0, 9), (1, 25)]⟩
theorem tf49 : TFact Tryz.prog 49 ti49 := ⟨⟨Tryz.t49, (match Tryz.t49.zero with | some z => z | none => undef), by kernel_rfl, by kernel_rfl, by kernel_rfl, by kernel_rfl, by kernel_rfl⟩, by kernel_rfl, by kernel_rfl, ⟨Tryz.t49.desc, by kernel_rfl, by kernel_rfl⟩, ⟨(match Tryz.t49.desc with | .struct F => F | _ => #[]), by kernel_rfl, by kernel_rfl⟩⟩
abbrev ti50 : TI := ⟨2, true, 40, [.str [], .nil], .struct [(0, 9), (1, 25)]⟩
theorem tf50 : TFact Tryz.prog 50 ti50 := ⟨⟨Tryz.t50, (match Tryz.t50.zero with | some z => z | none => undef), by kernel_rfl, by kernel_rfl, by kernel_rfl, by kernel_rfl, by kernel_rfl⟩, by kernel_rfl, by kernel_rfl, ⟨Tryz.t49.desc, by kernel_rfl, by kernel_rfl⟩, ⟨(match Tryz.t49.desc with | .struct F => F | _ => #[]), by kernel_rfl, by kernel_rfl⟩⟩
abbrev ti53 : TI := ⟨2, true, 40, [.str [], .nil], .struct [(0, 9), (1, 25)]⟩
theorem tf53 : TFact Tryz.prog 53 ti53 := ⟨⟨Tryz.t53, (match Tryz.t53.zero with | some z => z | none => undef), by kernel_rfl, by kernel_rfl, by kernel_rfl, by kernel_rfl, by kernel_rfl⟩, by kernel_rfl, by kernel_rfl, ⟨Tryz.t49.desc, by kernel_rfl, by kernel_rfl⟩, ⟨(match Tryz.t49.desc with | .struct F => F | _ => #[]), by kernel_rfl, by kernel_rfl⟩⟩
abbrev ti67 : TI := ⟨1, false, 24, [.nil], .slice 70⟩
theorem tf67 : TFact Tryz.prog 67 ti67 := ⟨⟨Tryz.t67, (match Tryz.t67.zero with | some z => z | none => undef), by kernel_rfl, by kernel_rfl, by kernel_rfl, by kernel_rfl, by kernel_rfl⟩, by kernel_rfl, by kernel_rfl, ⟨Tryz.t67.desc, by kernel_rfl, by kernel_rfl⟩, (by kernel_rfl : Tryz.prog.underlying 67 = some (.slice 70))⟩
abbrev ti69 : TI := ⟨2, true, 48, [.nil, .nil], .struct [(0, 25), (1, 25)]⟩
theorem tf69 : TFact Tryz.prog 69 ti69 := ⟨⟨Tryz.t69, (match Tryz.t69.zero with | some z => z | none => undef), by kernel_rfl, by kernel_rfl, by kernel_rfl, by kernel_rfl, by kernel_rfl⟩, by kernel_rfl, by kernel_rfl, ⟨Tryz.t69.desc, by kernel_rfl, by kernel_rfl⟩, ⟨(match Tryz.t69.desc with | .struct F => F | _ => #[]), by kernel_rfl, by kernel_rfl⟩⟩
abbrev ti70 : TI := ⟨2, true, 48, [.nil, .nil], .struct [(0, 25), (1, 25)]⟩
theorem tf70 : TFact Tryz.prog 70 ti70 := ⟨⟨Tryz.t70, (match Tryz.t70.zero with | some z => z | none => undef), by kernel_rfl, by kernel_rfl, by kernel_rfl, by kernel_rfl, by kernel_rfl⟩, by kernel_rfl, by kernel_rfl, ⟨Tryz.t69.desc, by kernel_rfl, by kernel_rfl⟩, ⟨(match Tryz.t69.desc with | .struct F => F | _ => #[]), by kernel_rfl, by kernel_rfl⟩⟩
abbrev ti72 : TI := ⟨1, false, 24, [.nil], .slice 120⟩
theorem tf72 : TFact Tryz.prog 72 ti72 := ⟨⟨Tryz.t72, (match Tryz.t72.zero with | some z => z | none => undef), by kernel_rfl, by kernel_rfl, by kernel_rfl, by kernel_rfl, by kernel_rfl⟩, by kernel_rfl, by kernel_rfl, ⟨Tryz.t72.desc, by kernel_rfl, by kernel_rfl⟩, (by kernel_rfl : Tryz.prog.underlying 72 = some (.slice 120))⟩
abbrev ti73 : TI := ⟨1, false, 24, [.nil], .slice 123⟩
theorem tf73 : TFact Tryz.prog 73 ti73 := ⟨⟨Tryz.t73, (match Tryz.t73.zero with | some z => z | none => undef), by kernel_rfl, by kernel_rfl, by kernel_rfl, by kernel_rfl, by kernel_rfl⟩, by kernel_rfl, by kernel_rfl, ⟨Tryz.t73.desc, by kernel_rfl, by kernel_rfl⟩, (by kernel_rfl : Tryz.prog.underlying 73 = some (.slice 123))⟩
abbrev ti74 : TI := ⟨1, false, 24, [.nil], .slice 105⟩
theorem tf74 : TFact Tryz.prog 74 ti74 := ⟨⟨Tryz.t74, (match Tryz.t74.zero with | some z => z | none => undef), by kernel_rfl, by kernel_rfl, by kernel_rfl, by kernel_rfl, by kernel_rfl⟩, by kernel_rfl, by kernel_rfl, ⟨Tryz.t74.desc, by kernel_rfl, by kernel_rfl⟩, (by kernel_rfl : Tryz.prog.underlying 74 = some (.slice 105))⟩
abbrev ti75 : TI := ⟨4, true, 80, [.nil, .nil, .nil, .int .i64 0], .struct [(0, 73), (1, 74), (2, 25), (3, 3)]⟩
theorem tf75 : TFact Tryz.prog 75 ti75 := ⟨⟨Tryz.t75, (match Tryz.t75.zero with | some z => z | none => undef), by kernel_rfl, by kernel_rfl, by kernel_rfl, by kernel_rfl, by kernel_rfl⟩, by kernel_rfl, by kernel_rfl, ⟨Tryz.t75.desc, by kernel_rfl, by kernel_rfl⟩, ⟨(match Tryz.t75.desc with | .struct F => F | _ => #[]), by kernel_rfl, by kernel_rfl⟩⟩
abbrev ti76 : TI := ⟨4, true, 80, [.nil, .nil, .nil, .int .i64 0], .struct [(0, 73), (1, 74), (2, 25), (3, 3)]⟩
theorem tf76 : TFact Tryz.prog 76 ti76 := ⟨⟨Tryz.t76, (match Tryz.t76.zero with | some z => z | none => undef), by kernel_rfl, by kernel_rfl, by kernel_rfl, by kernel_rfl, by kernel_rfl⟩, by kernel_rfl, by kernel_rfl, ⟨Tryz.t75.desc, by kernel_rfl, by kernel_rfl⟩, ⟨(match Tryz.t75.desc with | .struct F => F | _ => #[]), by kernel_rfl, by kernel_rfl⟩⟩
abbrev ti77 : TI := ⟨7, true, 136, [.int .i64 0, .nil, .nil, .nil, .nil, .nil, .int .i64 0], .struct [(0, 3), (1, 72), (2, 25), (3, 76)]⟩
theorem tf77 : TFact Tryz.prog 77 ti77 := ⟨⟨Tryz.t77, (match Tryz.t77.zero with | some z => z | none => undef), by kernel_rfl, by kernel_rfl, by kernel_rfl, by kernel_rfl, by kernel_rfl⟩, by kernel_rfl, by kernel_rfl, ⟨Tryz.t77.desc, by kernel_rfl, by kernel_rfl⟩, ⟨(match Tryz.t77.desc with | .struct F => F | _ => #[]), by kernel_rfl, by kernel_rfl⟩⟩
abbrev ti78 : TI := ⟨7, true, 136, [.int .i64 0, .nil, .nil, .nil, .nil, .nil, .int .i64 0], .struct [(0, 3), (1, 72), (2, 25), (3, 76)]⟩
theorem tf78 : TFact Tryz.prog 78 ti78 := ⟨⟨Tryz.t78, (match Tryz.t78.zero with | some z => z | none => undef), by kernel_rfl, by kernel_rfl, by kernel_rfl, by kernel_rfl, by kernel_rfl⟩, by kernel_rfl, by kernel_rfl, ⟨Tryz.t77.desc, by kernel_rfl, by kernel_rfl⟩, ⟨(match Tryz.t77.desc with | .struct F => F | _ => #[]), by kernel_rfl, by kernel_rfl⟩⟩
abbrev ti88 : TI := ⟨1, false, 24, [.nil], .slice 25⟩
theorem tf88 : TFact Tryz.prog 88 ti88 := ⟨⟨Tryz.t88, (match Tryz.t88.zero with | some z => z | none => undef), by kernel_rfl, by kernel_rfl, by kernel_rfl, by kernel_rfl, by kernel_rfl⟩, by kernel_rfl, by kernel_rfl, ⟨Tryz.t88.desc, by kernel_rfl, by kernel_rfl⟩, (by kernel_rfl : Tryz.prog.underlying 88 = some (.slice 25))⟩
abbrev ti89 : TI := ⟨1, false, 24, [.nil], .slice 72⟩
theorem tf89 : TFact Tryz.prog 89 ti89 := ⟨⟨Tryz.t89, (match Tryz.t89.zero with | some z => z | none => undef), by kernel_rfl, by kernel_rfl, by kernel_rfl, by kernel_rfl, by kernel_rfl⟩, by kernel_rfl, by kernel_rfl, ⟨Tryz.t89.desc, by kernel_rfl, by kernel_rfl⟩, (by kernel_rfl : Tryz.prog.underlying 89 = some (.slice 72))⟩
abbrev ti90 : TI := ⟨1, false, 24, [.nil], .slice 9⟩
theorem tf90 : TFact Tryz.prog 90 ti90 := ⟨⟨Tryz.t90, (match Tryz.t90.zero with | some z => z | none => undef), by kernel_rfl, by kernel_rfl, by kernel_rfl, by kernel_rfl, by kernel_rfl⟩, by kernel_rfl, by kernel_rfl, ⟨Tryz.t90.desc, by kernel_rfl, by kernel_rfl⟩, (by kernel_rfl : Tryz.prog.underlying 90 = some (.slice 9))⟩
abbrev ti91 : TI := ⟨10, true, 144, [.int .i64 0, .int .i64 0, .int .i64 0, .nil, .int .i64 0, .bool false, .nil, .nil, .nil, .bool false], .struct [(0, 31), (4, 3), (5, 4), (6, 88), (7, 89), (8, 90), (9, 4)]⟩
theorem tf91 : TFact Tryz.prog 91 ti91 := ⟨⟨Tryz.t91, (match Tryz.t91.zero with | some z => z | none => undef), by kernel_rfl, by kernel_rfl, by kernel_rfl, by kernel_rfl, by kernel_rfl⟩, by kernel_rfl, by kernel_rfl, ⟨Tryz.t91.desc, by kernel_rfl, by kernel_rfl⟩, ⟨(match Tryz.t91.desc with | .struct F => F | _ => #[]), by kernel_rfl, by kernel_rfl⟩⟩
abbrev ti92 : TI := ⟨10, true, 144, [.int .i64 0, .int .i64 0, .int .i64 0, .nil, .int .i64 0, .bool false, .nil, .nil, .nil, .bool false], .struct [(0, 31), (4, 3), (5, 4), (6, 88), (7, 89), (8, 90), (9, 4)]⟩
theorem tf92 : TFact Tryz.prog 92 ti92 := ⟨⟨Tryz.t92, (match Tryz.t92.zero with | some z => z | none => undef), by kernel_rfl, by kernel_rfl, by kernel_rfl, by kernel_rfl, by kernel_rfl⟩, by kernel_rfl, by kernel_rfl, ⟨Tryz.t91.desc, by kernel_rfl, by kernel_rfl⟩, ⟨(match Tryz.t91.desc with | .struct F => F | _ => #[]), by kernel_rfl, by kernel_rfl⟩⟩
abbrev ti93 : TI := ⟨1, false, 24, [.nil], .slice 78⟩
theorem tf93 : TFact Tryz.prog 93 ti93 := ⟨⟨Tryz.t93, (match Tryz.t93.zero with | some z => z | none => undef), by kernel_rfl, by kernel_rfl, by kernel_rfl, by kernel_rfl, by kernel_rfl⟩, by kernel_rfl, by kernel_rfl, ⟨Tryz.t93.desc, by kernel_rfl, by kernel_rfl⟩, (by kernel_rfl : Tryz.prog.underlying 93 = some (.slice 78))⟩
abbrev ti103 : TI := ⟨1, false, 24, [.nil], .slice 151⟩
theorem tf103 : TFact Tryz.prog 103 ti103 := ⟨⟨Tryz.t103, (match Tryz.t103.zero with | some z => z | none => undef), by kernel_rfl, by kernel_rfl, by kernel_rfl, by kernel_rfl, by kernel_rfl⟩, by kernel_rfl, by kernel_rfl, ⟨Tryz.t103.desc, by kernel_rfl, by kernel_rfl⟩, (by kernel_rfl : Tryz.prog.underlying 103 = some (.slice 151))⟩
abbrev ti104 : TI := ⟨1, false, 24, [.nil], .slice 107⟩
theorem tf104 : TFact Tryz.prog 104 ti104 := ⟨⟨Tryz.t104, (match Tryz.t104.zero with | some z => z | none => undef), by kernel_rfl, by kernel_rfl, by kernel_rfl, by kernel_rfl, by kernel_rfl⟩, by kernel_rfl, by kernel_rfl, ⟨Tryz.t104.desc, by kernel_rfl, by kernel_rfl⟩, (by kernel_rfl : Tryz.prog.underlying 104 = some (.slice 107))⟩
abbrev ti105 : TI := ⟨1, false, 8, [.flt 0], .flt⟩
theorem tf105 : TFact Tryz.prog 105 ti105 := ⟨⟨Tryz.t105, (match Tryz.t105.zero with | some z => z | none => undef), by kernel_rfl, by kernel_rfl, by kernel_rfl, by kernel_rfl, by kernel_rfl⟩, by kernel_rfl, by kernel_rfl, ⟨Tryz.t105.desc, by kernel_rfl, by kernel_rfl⟩, (by kernel_rfl : Tryz.prog.underlying 105 = some (.float .f64))⟩
abbrev ti106 : TI := ⟨4, true, 32, [.int .i64 0, .int .i64 0, .int .i64 0, .flt 0], .struct [(0, 3), (1, 3), (2, 3), (3, 105)]⟩
theorem tf106 : TFact Tryz.prog 106 ti106 := ⟨⟨Tryz.t106, (match Tryz.t106.zero with | some z => z | none => undef), by kernel_rfl, by kernel_rfl, by kernel_rfl, by kernel_rfl, by kernel_rfl⟩, by kernel_rfl, by kernel_rfl, ⟨Tryz.t106.desc, by kernel_rfl, by kernel_rfl⟩, ⟨(match Tryz.t106.desc with | .struct F => F | _ => #[]), by kernel_rfl, by kernel_rfl⟩⟩
abbrev ti107 : TI := ⟨4, true, 32, [.int .i64 0, .int .i64 0, .int .i64 0, .flt 0], .struct [(0, 3), (1, 3), (2, 3), (3, 105)]⟩
theorem tf107 : TFact Tryz.prog 107 ti107 := ⟨⟨Tryz.t107, (match Tryz.t107.zero with | some z => z | none => undef), by kernel_rfl, by kernel_rfl, by kernel_rfl, by kernel_rfl, by kernel_rfl⟩, by kernel_rfl, by kernel_rfl, ⟨Tryz.t106.desc, by kernel_rfl, by kernel_rfl⟩, ⟨(match Tryz.t106.desc with | .struct F => F | _ => #[]), by kernel_rfl, by kernel_rfl⟩⟩
abbrev ti119 : TI := ⟨5, true, 40, [.int .i64 0, .int .i64 0, .int .i64 0, .int .i64 0, .int .i64 0], .struct [(0, 3), (1, 3), (2, 3), (3, 3), (4, 3)]⟩
theorem tf119 : TFact Tryz.prog 119 ti119 := ⟨⟨Tryz.t119, (match Tryz.t119.zero with | some z => z | none => undef), by kernel_rfl, by kernel_rfl, by kernel_rfl, by kernel_rfl, by kernel_rfl⟩, by kernel_rfl, by kernel_rfl, ⟨Tryz.t119.desc, by kernel_rfl, by kernel_rfl⟩, ⟨(match Tryz.t119.desc with | .struct F => F | _ => #[]), by kernel_rfl, by kernel_rfl⟩⟩
abbrev ti120 : TI := ⟨5, true, 40, [.int .i64 0, .int .i64 0, .int .i64 0, .int .i64 0, .int .i64 0], .struct [(0, 3), (1, 3), (2, 3), (3, 3), (4, 3)]⟩
theorem tf120 : TFact Tryz.prog 120 ti120 := ⟨⟨Tryz.t120, (match Tryz.t120.zero with | some z => z | none => undef), by kernel_rfl, by kernel_rfl, by kernel_rfl, by kernel_rfl, by kernel_rfl⟩, by kernel_rfl, by kernel_rfl, ⟨Tryz.t119.desc, by kernel_rfl, by kernel_rfl⟩, ⟨(match Tryz.t119.desc with | .struct F => F | _ => #[]), by kernel_rfl, by kernel_rfl⟩⟩
abbrev ti122 : TI := ⟨6, true, 64, [.int .i64 0, .int .i64 0, .int .i64 0, .int .i64 0, .int .i64 0, .nil], .struct [(0, 3), (1, 3), (2, 3), (3, 3), (4, 3), (5, 74)]⟩
theorem tf122 : TFact Tryz.prog 122 ti122 := ⟨⟨Tryz.t122, (match Tryz.t122.zero with | some z => z | none => undef), by kernel_rfl, by kernel_rfl, by kernel_rfl, by kernel_rfl, by kernel_rfl⟩, by kernel_rfl, by kernel_rfl, ⟨Tryz.t122.desc, by kernel_rfl, by kernel_rfl⟩, ⟨(match Tryz.t122.desc with | .struct F => F | _ => #[]), by kernel_rfl, by kernel_rfl⟩⟩
abbrev ti123 : TI := ⟨6, true, 64, [.int .i64 0, .int .i64 0, .int .i64 0, .int .i64 0, .int .i64 0, .nil], .struct [(0, 3), (1, 3), (2, 3), (3, 3), (4, 3), (5, 74)]⟩
theorem tf123 : TFact Tryz.prog 123 ti123 := ⟨⟨Tryz.t123, (match Tryz.t123.zero with | some z => z | none => undef), by kernel_rfl, by kernel_rfl, by kernel_rfl, by kernel_rfl, by kernel_rfl⟩, by kernel_rfl, by kernel_rfl, ⟨Tryz.t122.desc, by kernel_rfl, by kernel_rfl⟩, ⟨(match Tryz.t122.desc with | .struct F => F | _ => #[]), by kernel_rfl, by kernel_rfl⟩⟩
abbrev ti142 : TI := ⟨7, true, 88, [.int .i64 0, .int .i64 0, .int .i64 0, .nil, .int .i64 0, .nil, .bool false], .struct [(0, 31), (4, 3), (5, 93), (6, 4)]⟩
theorem tf142 : TFact Tryz.prog 142 ti142 := ⟨⟨Tryz.t142, (match Tryz.t142.zero with | some z => z | none => undef), by kernel_rfl, by kernel_rfl, by kernel_rfl, by kernel_rfl, by kernel_rfl⟩, by kernel_rfl, by kernel_rfl, ⟨Tryz.t142.desc, by kernel_rfl, by kernel_rfl⟩, ⟨(match Tryz.t142.desc with | .struct F => F | _ => #[]), by kernel_rfl, by kernel_rfl⟩⟩
abbrev ti143 : TI := ⟨7, true, 88, [.int .i64 0, .int .i64 0, .int .i64 0, .nil, .int .i64 0, .nil, .bool false], .struct [(0, 31), (4, 3), (5, 93), (6, 4)]⟩
theorem tf143 : TFact Tryz.prog 143 ti143 := ⟨⟨Tryz.t143, (match Tryz.t143.zero with | some z => z | none => undef), by kernel_rfl, by kernel_rfl, by kernel_rfl, by kernel_rfl, by kernel_rfl⟩, by kernel_rfl, by kernel_rfl, ⟨Tryz.t142.desc, by kernel_rfl, by kernel_rfl⟩, ⟨(match Tryz.t142.desc with | .struct F => F | _ => #[]), by kernel_rfl, by kernel_rfl⟩⟩
abbrev ti151 : TI := ⟨4, true, 32, [.int .i64 0, .int .i64 0, .int .i64 0, .flt 0], .struct [(0, 3), (1, 3), (2, 3), (3, 105)]⟩
theorem tf151 : TFact Tryz.prog 151 ti151 := ⟨⟨Tryz.t151, (match Tryz.t151.zero with | some z => z | none => undef), by kernel_rfl, by kernel_rfl, by kernel_rfl, by kernel_rfl, by kernel_rfl⟩, by kernel_rfl, by kernel_rfl, ⟨Tryz.t106.desc, by kernel_rfl, by kernel_rfl⟩, ⟨(match Tryz.t106.desc with | .struct F => F | _ => #[]), by kernel_rfl, by kernel_rfl⟩⟩
abbrev ti157 : TI := ⟨1, false, 24, [.nil], .slice 5⟩
theorem tf157 : TFact Tryz.prog 157 ti157 := ⟨⟨Tryz.t157, (match Tryz.t157.zero with | some z => z | none => undef), by kernel_rfl, by kernel_rfl, by kernel_rfl, by kernel_rfl, by kernel_rfl⟩, by kernel_rfl, by kernel_rfl, ⟨Tryz.t157.desc, by kernel_rfl, by kernel_rfl⟩, (by kernel_rfl : Tryz.prog.underlying 157 = some (.slice 5))⟩
abbrev ti168 : TI := ⟨100, true, 800, [.int .i64 0, .int .i64 0, .int .i64 0, .int .i64 0, .int .i64 0, .int .i64 0, .int .i64 0, .int .i64 0, .int .i64 0, .int .i64 0, .int .i64 0, .int .i64 0, .int .i64 0, .int .i64 0, .int .i64 0, .int .i64 0, .int .i64 0, .int .i64 0, .int .i64 0, .int .i64 0, .int .i64 0, .int .i64 0, .int .i64 0, .int .i64 0, .int .i64 0, .int .i64 0, .int .i64 0, .int .i64 0, .int .i64 0, .int .i64 0, .int .i64 0, .int .i64 0, .int .i64 0, .int .i64 0, .int .i64 0, .int .i64 0, .int .i64 0, .int .i64 0, .int .i64 0, .int .i64 0, .int .i64 0, .int .i64 0, .int .i64 0, .int .i64 0, .int .i64 0, .int .i64 0, .int .i64 0, .int .i64 0, .int .i64 0, .int .i64 0, .int .i64 0, .int .i64 0, .int .i64 0, .int .i64 0, .int .i64 0, .int .i64 0, .int .i64 0, .int .i64 0, .int .i64 0, .int .i64 0, .int .i64 0, .int .i64 0, .int .i64 0, .int .i64 0, .int .i64 0, .int .i64 0, .int .i64 0, .int .i64 0, .int .i64 0, .int .i64 0, .int .i64 0, .int .i64 0, .int .i64 0, .int .i64 0, .int .i64 0, .int .i64 0, .int .i64 0, .int .i64 0, .int .i64 0, .int .i64 0, .int .i64 0, .int .i64 0, .int .i64 0, .int .i64 0, .int .i64 0, .int .i64 0, .int .i64 0, .int .i64 0, .int .i64 0, .int .i64 0, .int .i64 0, .int .i64 0, .int .i64 0, .int .i64 0, .int .i64 0, .int .i64 0, .int .i64 0, .int .i64 0, .int .i64 0, .int .i64 0], .array 100 3⟩
theorem tf168 : TFact Tryz.prog 168 ti168 := ⟨⟨Tryz.t168, (match Tryz.t168.zero with | some z => z | none => undef), by kernel_rfl, by kernel_rfl, by kernel_rfl, by kernel_rfl, by kernel_rfl⟩, by kernel_rfl, by kernel_rfl, ⟨Tryz.t168.desc, by kernel_rfl, by kernel_rfl⟩, (by kernel_rfl : Tryz.prog.underlying 168 = some (.array 100 3))⟩
abbrev ti177 : TI := ⟨1, false, 24, [.nil], .slice 3⟩
theorem tf177 : TFact Tryz.prog 177 ti177 := ⟨⟨Tryz.t177, (match Tryz.t177.zero with | some z => z | none => undef), by kernel_rfl, by kernel_rfl, by kernel_rfl, by kernel_rfl, by kernel_rfl⟩, by kernel_rfl, by kernel_rfl, ⟨Tryz.t25.desc, by kernel_rfl, by kernel_rfl⟩, (by kernel_rfl : Tryz.prog.underlying 177 = some (.slice 3))⟩
abbrev ti223 : TI := ⟨1, false, 8, [.int .u64 0], .int .u64⟩
theorem tf223 : TFact Tryz.prog 223 ti223 := ⟨⟨Tryz.t223, (match Tryz.t223.zero with | some z => z | none => undef), by kernel_rfl, by kernel_rfl, by kernel_rfl, by kernel_rfl, by kernel_rfl⟩, by kernel_rfl, by kernel_rfl, ⟨Tryz.t223.desc, by kernel_rfl, by kernel_rfl⟩, (by kernel_rfl : Tryz.prog.underlying 223 = some (.int .u64))⟩
abbrev ti227 : TI := ⟨24, true, 24, [.int .u8 0, .int .u8 0, .int .u8 0, .int .u8 0, .int .u8 0, .int .u8 0, .int .u8 0, .int .u8 0, .int .u8 0, .int .u8 0, .int .u8 0, .int .u8 0, .int .u8 0, .int .u8 0, .int .u8 0, .int .u8 0, .int .u8 0, .int .u8 0, .int .u8 0, .int .u8 0, .int .u8 0, .int .u8 0, .int .u8 0, .int .u8 0], .array 24 5⟩
theorem tf227 : TFact Tryz.prog 227 ti227 := ⟨⟨Tryz.t227, (match Tryz.t227.zero with | some z => z | none => undef), by kernel_rfl, by kernel_rfl, by kernel_rfl, by kernel_rfl, by kernel_rfl⟩, by kernel_rfl, by kernel_rfl, ⟨Tryz.t227.desc, by kernel_rfl, by kernel_rfl⟩, (by kernel_rfl : Tryz.prog.underlying 227 = some (.array 24 5))⟩
abbrev ti236 : TI := ⟨1, false, 8, [.int .u64 0], .int .u64⟩
theorem tf236 : TFact Tryz.prog 236 ti236 := ⟨⟨Tryz.t236, (match Tryz.t236.zero with | some z => z | none => undef), by kernel_rfl, by kernel_rfl, by kernel_rfl, by kernel_rfl, by kernel_rfl⟩, by kernel_rfl, by kernel_rfl, ⟨Tryz.t236.desc, by kernel_rfl, by kernel_rfl⟩, (by kernel_rfl : Tryz.prog.underlying 236 = some (.int .u64))⟩
abbrev ti242 : TI := ⟨20, true, 160, [.int .u64 0, .int .u64 0, .int .u64 0, .int .u64 0, .int .u64 0, .int .u64 0, .int .u64 0, .int .u64 0, .int .u64 0, .int .u64 0, .int .u64 0, .int .u64 0, .int .u64 0, .int .u64 0, .int .u64 0, .int .u64 0, .int .u64 0, .int .u64 0, .int .u64 0, .int .u64 0], .array 20 223⟩
theorem tf242 : TFact Tryz.prog 242 ti242 := ⟨⟨Tryz.t242, (match Tryz.t242.zero with | some z => z | none => undef), by kernel_rfl, by kernel_rfl, by kernel_rfl, by kernel_rfl, by kernel_rfl⟩, by kernel_rfl, by kernel_rfl, ⟨Tryz.t242.desc, by kernel_rfl, by kernel_rfl⟩, (by kernel_rfl : Tryz.prog.underlying 242 = some (.array 20 223))⟩
abbrev ti243 : TI := ⟨1, false, 4, [.int .u32 0], .int .u32⟩
theorem tf243 : TFact Tryz.prog 243 ti243 := ⟨⟨Tryz.t243, (match Tryz.t243.zero with | some z => z | none => undef), by kernel_rfl, by kernel_rfl, by kernel_rfl, by kernel_rfl, by kernel_rfl⟩, by kernel_rfl, by kernel_rfl, ⟨Tryz.t243.desc, by kernel_rfl, by kernel_rfl⟩, (by kernel_rfl : Tryz.prog.underlying 243 = some (.int .u32))⟩
abbrev ti249 : TI := ⟨32, true, 32, [.int .u8 0, .int .u8 0, .int .u8 0, .int .u8 0, .int .u8 0, .int .u8 0, .int .u8 0, .int .u8 0, .int .u8 0, .int .u8 0, .int .u8 0, .int .u8 0, .int .u8 0, .int .u8 0, .int .u8 0, .int .u8 0, .int .u8 0, .int .u8 0, .int .u8 0, .int .u8 0, .int .u8 0, .int .u8 0, .int .u8 0, .int .u8 0, .int .u8 0, .int .u8 0, .int .u8 0, .int .u8 0, .int .u8 0, .int .u8 0, .int .u8 0, .int .u8 0], .array 32 5⟩
theorem tf249 : TFact Tryz.prog 249 ti249 := ⟨⟨Tryz.t249, (match Tryz.t249.zero with | some z => z | none => undef), by kernel_rfl, by kernel_rfl, by kernel_rfl, by kernel_rfl, by kernel_rfl⟩, by kernel_rfl, by kernel_rfl, ⟨Tryz.t249.desc, by kernel_rfl, by kernel_rfl⟩, (by kernel_rfl : Tryz.prog.underlying 249 = some (.array 32 5))⟩
abbrev ti250 : TI := ⟨64, true, 64, [.int .u8 0, .int .u8 0, .int .u8 0, .int .u8 0, .int .u8 0, .int .u8 0, .int .u8 0, .int .u8 0, .int .u8 0, .int .u8 0, .int .u8 0, .int .u8 0, .int .u8 0, .int .u8 0, .int .u8 0, .int .u8 0, .int .u8 0, .int .u8 0, .int .u8 0, .int .u8 0, .int .u8 0, .int .u8 0, .int .u8 0, .int .u8 0, .int .u8 0, .int .u8 0, .int .u8 0, .int .u8 0, .int .u8 0, .int .u8 0, .int .u8 0, .int .u8 0, .int .u8 0, .int .u8 0, .int .u8 0, .int .u8 0, .int .u8 0, .int .u8 0, .int .u8 0, .int .u8 0, .int .u8 0, .int .u8 0, .int .u8 0, .int .u8 0, .int .u8 0, .int .u8 0, .int .u8 0, .int .u8 0, .int .u8 0, .int .u8 0, .int .u8 0, .int .u8 0, .int .u8 0, .int .u8 0, .int .u8 0, .int .u8 0, .int .u8 0, .int .u8 0, .int .u8 0, .int .u8 0, .int .u8 0, .int .u8 0, .int .u8 0, .int .u8 0], .array 64 5⟩
theorem tf250 : TFact Tryz.prog 250 ti250 := ⟨⟨Tryz.t250, (match Tryz.t250.zero with | some z => z | none => undef), by kernel_rfl, by kernel_rfl, by kernel_rfl, by kernel_rfl, by kernel_rfl⟩, by kernel_rfl, by kernel_rfl, ⟨Tryz.t250.desc, by kernel_rfl, by kernel_rfl⟩, (by kernel_rfl : Tryz.prog.underlying 250 = some (.array 64 5))⟩
inductive TT where | leaf | node (k : Nat) (v : TI) (l r : TT)
def TT.get (t : Nat) : TT → Option TI
 | .leaf => none
 | .node k v l r => bif Nat.beq t k then some v else bif Nat.blt t k then l.get t else r.get t
inductive TT.All (p : Nat → TI → Prop) : TT → Prop where
 |leaf : TT.All p .leaf
 |node (k v l r) (h : p k v) (hl : TT.All p l) (hr : TT.All p r) : TT.All p (.node k v l r)
theorem TT.get_all {p : Nat → TI → Prop} {t : Nat} {v : TI} {T : TT} (h : TT.All p T) : T.get t = some v → p t v := by
 induction h with
 |leaf => intro h; cases h
 |node k w l r h hl hr ihl ihr =>
  intro hg
  simp only [TT.get] at hg
  cases hb : Nat.beq t k with
  |true => rw [hb] at hg; simp only [cond_true, Option.some.injEq] at hg; subst hg; rw [Nat.eq_of_beq_eq_true hb]; exact h
  |false =>
   rw [hb] at hg
   simp only [cond_false] at hg
   cases hc : Nat.blt t k with
   |true => rw [hc] at hg; exact ihl hg
   |false => rw [hc] at hg; exact ihr hg
def tyT : TT := (.node 76 ti76 (.node 23 ti23 (.node 9 ti9 (.node 5 ti5 (.node 3 ti3 (.node 2 ti2 .leaf .leaf) (.node 4 ti4 .leaf .leaf)) (.node 7 ti7 (.node 6 ti6 .leaf .leaf) (.node 8 ti8 .leaf .leaf))) (.node 13 ti13 (.node 11 ti11 (.node 10 ti10 .leaf .leaf) (.node 12 ti12 .leaf .leaf)) (.node 21 ti21 (.node 14 ti14 .leaf .leaf) (.node 22 ti22 .leaf .leaf)))) (.node 53 ti53 (.node 30 ti30 (.node 25 ti25 (.node 24 ti24 .leaf .leaf) (.node 29 ti29 .leaf .leaf)) (.node 49 ti49 (.node 31 ti31 .leaf .leaf) (.node 50 ti50 .leaf .leaf))) (.node 72 ti72 (.node 69 ti69 (.node 67 ti67 .leaf .leaf) (.node 70 ti70 .leaf .leaf)) (.node 74 ti74 (.node 73 ti73 .leaf .leaf) (.node 75 ti75 .leaf .leaf))))) (.node 122 ti122 (.node 93 ti93 (.node 89 ti89 (.node 78 ti78 (.node 77 ti77 .leaf .leaf) (.node 88 ti88 .leaf .leaf)) (.node 91 ti91 (.node 90 ti90 .leaf .leaf) (.node 92 ti92 .leaf .leaf))) (.node 106 ti106 (.node 104 ti104 (.node 103 ti103 .leaf .leaf) (.node 105 ti105 .leaf .leaf)) (.node 119 ti119 (.node 107 ti107 .leaf .leaf) (.node 120 ti120 .leaf .leaf)))) (.node 223 ti223 (.node 151 ti151 (.node 142 ti142 (.node 123 ti123 .leaf .leaf) (.node 143 ti143 .leaf .leaf)) (.node 168 ti168 (.node 157 ti157 .leaf .leaf) (.node 177 ti177 .leaf .leaf))) (.node 243 ti243 (.node 236 ti236 (.node 227 ti227 .leaf .leaf) (.node 242 ti242 .leaf .leaf)) (.node 250 ti250 (.node 249 ti249 .leaf .leaf) .leaf)))))
def tyF (t : TypeId) : Option TI := tyT.get t
theorem tyF_ok (t : TypeId) (ti : TI) (h : tyF t = some ti) : TFact Tryz.prog t ti := TT.get_all (p := TFact Tryz.prog) (T := tyT) (.node _ _ _ _ tf76 (.node _ _ _ _ tf23 (.node _ _ _ _ tf9 (.node _ _ _ _ tf5 (.node _ _ _ _ tf3 (.node _ _ _ _ tf2 .leaf .leaf) (.node _ _ _ _ tf4 .leaf .leaf)) (.node _ _ _ _ tf7 (.node _ _ _ _ tf6 .leaf .leaf) (.node _ _ _ _ tf8 .leaf .leaf))) (.node _ _ _ _ tf13 (.node _ _ _ _ tf11 (.node _ _ _ _ tf10 .leaf .leaf) (.node _ _ _ _ tf12 .leaf .leaf)) (.node _ _ _ _ tf21 (.node _ _ _ _ tf14 .leaf .leaf) (.node _ _ _ _ tf22 .leaf .leaf)))) (.node _ _ _ _ tf53 (.node _ _ _ _ tf30 (.node _ _ _ _ tf25 (.node _ _ _ _ tf24 .leaf .leaf) (.node _ _ _ _ tf29 .leaf .leaf)) (.node _ _ _ _ tf49 (.node _ _ _ _ tf31 .leaf .leaf) (.node _ _ _ _ tf50 .leaf .leaf))) (.node _ _ _ _ tf72 (.node _ _ _ _ tf69 (.node _ _ _ _ tf67 .leaf .leaf) (.node _ _ _ _ tf70 .leaf .leaf)) (.node _ _ _ _ tf74 (.node _ _ _ _ tf73 .leaf .leaf) (.node _ _ _ _ tf75 .leaf .leaf))))) (.node _ _ _ _ tf122 (.node _ _ _ _ tf93 (.node _ _ _ _ tf89 (.node _ _ _ _ tf78 (.node _ _ _ _ tf77 .leaf .leaf) (.node _ _ _ _ tf88 .leaf .leaf)) (.node _ _ _ _ tf91 (.node _ _ _ _ tf90 .leaf .leaf) (.node _ _ _ _ tf92 .leaf .leaf))) (.node _ _ _ _ tf106 (.node _ _ _ _ tf104 (.node _ _ _ _ tf103 .leaf .leaf) (.node _ _ _ _ tf105 .leaf .leaf)) (.node _ _ _ _ tf119 (.node _ _ _ _ tf107 .leaf .leaf) (.node _ _ _ _ tf120 .leaf .leaf)))) (.node _ _ _ _ tf223 (.node _ _ _ _ tf151 (.node _ _ _ _ tf142 (.node _ _ _ _ tf123 .leaf .leaf) (.node _ _ _ _ tf143 .leaf .leaf)) (.node _ _ _ _ tf168 (.node _ _ _ _ tf157 .leaf .leaf) (.node _ _ _ _ tf177 .leaf .leaf))) (.node _ _ _ _ tf243 (.node _ _ _ _ tf236 (.node _ _ _ _ tf227 .leaf .leaf) (.node _ _ _ _ tf242 .leaf .leaf)) (.node _ _ _ _ tf250 (.node _ _ _ _ tf249 .leaf .leaf) .leaf))))) h
end Ai
end
section
namespace Ai
open Go Go.Proofs
theorem var_mono {P : Program} {name : String} {cs : Array Value} {w w' : World} (h : w.var? P name = some cs) (hb : RowKit.Below w.heap.size w w') : w'.var? P name = some cs := by
 unfold World.var? at *
 cases hg : P.globalNamed name with
 |none => rw [hg] at h; exact h
 |some g =>
  rw [hg] at h
  simp only [Option.bind_some] at h ⊢
  cases hh : w.heap[g]? with
  |none => rw [hh] at h; cases h
  |some ob =>
   have hlt : g < w.heap.size := (Array.getElem?_eq_some_iff.1 hh).1
   rw [hb.block g hlt, hh]
   rw [hh] at h
   exact h
def IT (w : World) : Prop := Lib.TabIs Tryz.prog w "internal/strconv.uint64pow10" .u64 Lib.pow10Tab
theorem IT_mono (w w' : World) (h : IT w) (hb : RowKit.Below w.heap.size w w') : IT w' := var_mono h hb
def mapF (t : TypeId) : Option TypeId := bif Nat.beq t 196 then some 3 else none
theorem mapF_ok (t e : TypeId) (h : mapF t = some e) : ∃ k, Tryz.prog.underlying t = some (.map k e) ∧ Tryz.prog.underlying k = some (.int .i64) := by
 unfold mapF at h
 cases hb : Nat.beq t 196 with
 |false => rw [hb] at h; cases h
 |true =>
  rw [hb] at h
  have := Nat.eq_of_beq_eq_true hb
  subst this
  injection h with h; subst h
  exact ⟨3, (by kernel_rfl : Tryz.prog.underlying 196 = some (.map 3 3)), (by kernel_rfl : Tryz.prog.underlying 3 = some (.int .i64))⟩
def ioF (g : FuncId) : Bool := Nat.beq g 64
def funT (t : TypeId) : Bool := Nat.beq t 137
theorem funT_ok (t : TypeId) (h : funT t = true) : ∃ i z u, Tryz.prog.info? t = some i ∧ i.size = 1 ∧ i.zero = some z ∧ z.cells = #[z] ∧ Tryz.prog.underlying t = some u ∧ isAggD u = false := by
 have := Nat.eq_of_beq_eq_true h
 subst this
 exact ⟨Tryz.t137, .nilFunc, Tryz.t137.desc, by kernel_rfl, by kernel_rfl, by kernel_rfl, by kernel_rfl, by kernel_rfl, by kernel_rfl⟩
noncomputable abbrev EE : Env := ⟨Tryz.prog, tyF, tyF_ok, mapF, mapF_ok, by kernel_rfl, IT, IT_mono, ioF, funT, funT_ok⟩
abbrev i64 (n : Int) : AV := .d (.int .i64 n)
abbrev bv (b : Bool) : AV := .d (.bool b)
abbrev sv (s : List UInt8) : AV := .d (.str s)
abbrev sl (els : List (List D)) : AV := .d (.sl els)
abbrev di (n : Int) : D := .int .i64 n
def ints (l : List Int) : List (List D) := l.map fun n => [di n]
theorem zH {n : Int} (h1 : -9223372036854775808 ≤ n) (h2 : n ≤ 9223372036854775807) : IntKind.i64.wrap n = n := by rw [IntKind.wrap_i64]; omega
end Ai
end
section
set_option maxRecDepth 100000
namespace Ai
open Go Go.Proofs
theorem oB {a b : Int} (h : a = b) : AV.d (.int .i64 a) = i64 b := by rw [h]
theorem next_i64 {k n : Nat} (h : k < n) (hn : n ≤ 9223372036854775807) : AV.d (.int .i64 (IntKind.i64.wrap ((k : Int) + 1))) = i64 ((k + 1 : Nat) : Int) :=
 oB (by rw [zH (by omega) (by omega)]; rfl)
theorem lt_of_dec {k n : Nat} (h : decide ((k : Int) < (n : Int)) = true) : k < n := by simpa using h
theorem ge_of_dec {k n : Nat} (h : decide ((k : Int) < (n : Int)) = false) : n ≤ k := by simpa using h
theorem yC {α : Type} {xs : List α} (enc : α → List D) {k n : Nat} (h : k < xs.length) (hl : (enc xs[k]).length = n) : 0 ≤ (k : Int) ∧ (xs.map enc)[(k : Int).toNat]? = some (enc xs[k]) ∧ (enc xs[k]).length = n := ⟨by omega, by simp [h], hl⟩
theorem xY {α : Type} {xs : List α} {enc : α → List D} {k : Nat} (h : decide ((k : Int) < ((xs.map enc).length : Int)) = true) : k < xs.length := by simpa using h
theorem ge_map {α : Type} {xs : List α} {enc : α → List D} {k : Nat} (h : decide ((k : Int) < ((xs.map enc).length : Int)) = false) : xs.length ≤ k := by simpa using h
def dL {α : Type} (f : α → Nat) (xs : List α) : Nat := xs.length + (xs.map f).sum
theorem cC (l : List Nat) (k : Nat) (h : k < l.length) : (l.take (k + 1)).sum = (l.take k).sum + l[k] := by
 rw [List.take_add_one, List.sum_append, List.getElem?_eq_getElem h]; simp
structure OpL where
 code : Int
 a : Int
 b : Int
 v : Nat
structure PctL where
 ranks : List Int
 changes : List Int
structure PairL where
 cell : Int
 one : Int
 two : Int
structure FoundL where
 sign : List UInt8
 picks : List Int
structure ProgL where
 cells : Int
 locks : Int
 conds : Int
 rs : List (List OpL)
structure HuntL where
 p : ProgL
 kept : List PctL
 cov : List PairL
 finds : List FoundL
 tried : Int
def encInt (n : Int) : List D := [di n]
def encOp (o : OpL) : List D := [di o.code, di o.a, di o.b, .flt o.v]
def zW (l : List OpL) : List D := [.sl (l.map encOp)]
def encProg (p : ProgL) : List D := [di p.cells, di p.locks, di p.conds, .sl (p.rs.map zW)]
def agg (l : List D) : AV := .agg (l.map .d)
def ProgL.wf (p : ProgL) : Prop := p.rs.length ≤ 9223372036854775807 ∧ ∀ r ∈ p.rs, r.length ≤ 9223372036854775807
def PctL.wf (s : PctL) : Prop := s.ranks.length ≤ 9223372036854775807 ∧ s.changes.length ≤ 9223372036854775807
def FoundL.wf (f : FoundL) : Prop := f.sign.length ≤ 9223372036854775807 ∧ f.picks.length ≤ 9223372036854775807
def HuntL.wf (h : HuntL) : Prop := h.p.wf ∧ h.kept.length ≤ 9223372036854775807 ∧ (∀ s ∈ h.kept, s.wf) ∧ h.cov.length ≤ 9223372036854775807 ∧ h.finds.length ≤ 9223372036854775807 ∧ ∀ f ∈ h.finds, f.wf
def PctL.size (s : PctL) : Nat := s.ranks.length + s.changes.length
def FoundL.size (f : FoundL) : Nat := f.sign.length + f.picks.length
def ProgL.size (p : ProgL) : Nat := dL List.length p.rs
def HuntL.size (h : HuntL) : Nat := h.p.size + dL PctL.size h.kept + h.cov.length + dL FoundL.size h.finds
def szR (left : Int) (size : Nat) (r : AV) : Prop := ∃ n : Int, r = i64 n ∧ -1 ≤ n ∧ n ≤ left ∧ (0 ≤ n → (size : Int) + n ≤ left)
end Ai
namespace Ai
open Go
theorem nt {c : Bool} (h : c = false) : ¬ c = true := by simp [h]
theorem oO (x y : Nat) : fcmp .neq x y = !fcmp .eql x y := rfl
end Ai
namespace Ai
theorem kbi {c : Bool} {A B : Prop} (h1 : c = true → A) (h2 : ¬ c = true → B) : (c = true → A) ∧ (c = false → B) := ⟨h1, fun h => h2 (by simp [h])⟩
end Ai
namespace Ai
open Go
noncomputable def pb (P : Prop) : Bool := @decide P (Classical.propDecidable P)
theorem sA {P : Prop} (h : P) : pb P = true := by simp [pb, h]
theorem iO {P : Prop} (h : ¬ P) : pb P = false := by simp [pb, h]
noncomputable abbrev bp (P : Prop) : AV := bv (pb P)
theorem bpt {P : Prop} (h : P) : AV.d (.bool true) = bp P := by simp only [bp, sA h]
theorem bpf {P : Prop} (h : ¬ P) : AV.d (.bool false) = bp P := by simp only [bp, iO h]
theorem tO {P : Prop} {G : AV → Prop} (h1 : P → G (bv true)) (h2 : ¬ P → G (bv false)) : G (bp P) := by
 by_cases h : P
 ·have : bp P = bv true := by simp only [bp, sA h]
  rw [this]; exact h1 h
 ·have : bp P = bv false := by simp only [bp, iO h]
  rw [this]; exact h2 h
theorem qcase {E : Env} {g : FuncId} {ar : List AV} {P : Prop} {G : AV → Prop} (h : CallsTo E g ar (· = bp P)) (h1 : P → G (bv true)) (h2 : ¬ P → G (bv false)) : ∃ r, CallsTo E g ar (· = r) ∧ G r := ⟨_, h, tO h1 h2⟩
theorem ocase {E : Env} {g : FuncId} {ar : List AV} {P : Prop} {G : AV → Prop} (h : CallsTo E g ar (· = bp P)) (h1 : P → G (bv true)) (h2 : ¬ P → G (bv false)) : ∃ R, CallsTo E g ar R ∧ ∀ r, R r → G r :=
 ⟨_, h, fun r hr => by subst hr; exact tO h1 h2⟩
theorem fcase {E : Env} {g : FuncId} {ar : List AV} {P : Prop} {G : AV → Prop} (h : CallsTo E g ar (· = bp P)) (h1 : P → G (bv true)) (h2 : ¬ P → G (bv false)) : ∃ R, CallsTo E g ar R ∧ ∀ r, R r → tW r ∧ G r :=
 ⟨_, h, fun r hr => ⟨by subst hr; rfl, by subst hr; exact tO h1 h2⟩⟩
theorem qF {α : Type} {xs : List α} {p : α → Prop} {k : Nat} (h : ∀ x ∈ xs.take k, p x) (hk : k < xs.length) (hp : p xs[k]) : ∀ x ∈ xs.take (k + 1), p x := by
 intro x hx
 rw [List.take_add_one, List.getElem?_eq_getElem hk] at hx
 simp only [Option.toList, List.mem_append, List.mem_singleton] at hx
 rcases hx with hx | hx
 ·exact h x hx
 ·subst hx; exact hp
theorem kE {α : Type} {xs : List α} {p : α → Prop} {k : Nat} (h : ∀ x ∈ xs.take k, p x) (hk : xs.length ≤ k) : ∀ x ∈ xs, p x := by
 rw [List.take_of_length_le hk] at h; exact h
theorem jU {α : Type} {xs : List α} {p : α → Prop} : ∀ x ∈ xs.take 0, p x := by simp
end Ai
end
section
set_option maxRecDepth 100000
namespace Ai
open Go Go.Proofs
theorem w8 {α : Type} (xs : List α) (enc : α → List D) (z : List D) (k sz : Nat) (h : k < xs.length) (hs : (enc xs[k]).length = sz) :
  kK ((xs.take k).map enc ++ List.replicate (xs.length - k) z) sz (0 + (k : Int).toNat) 0 (enc xs[k]) = (xs.take (k + 1)).map enc ++ List.replicate (xs.length - (k + 1)) z := by
 have e : kK ((xs.take k).map enc ++ List.replicate (xs.length - k) z) sz (0 + (k : Int).toNat) 0 (enc xs[k]) = ((xs.take k).map enc ++ List.replicate (xs.length - k) z).set k (enc xs[k]) := by
  unfold kK
  rw [hs, nbeq_self, nbeq_self]
  simp
 rw [e, List.set_append]
 have hl : ((xs.take k).map enc).length = k := by simp; omega
 rw [if_neg (by omega), hl, Nat.sub_self]
 have : xs.length - k = (xs.length - (k + 1)) + 1 := by omega
 rw [this, List.replicate_succ, List.set_cons_zero, List.take_add_one, List.getElem?_eq_getElem h, List.map_append]
 simp only [Option.toList, List.map_cons, List.map_nil, List.append_assoc, List.singleton_append]
theorem set_end {α : Type} (xs : List α) (enc : α → List D) (z : List D) (k n : Nat) (h : xs.length ≤ k) (hk : k ≤ xs.length) (hn : n = xs.length) : ((xs.take k).map enc ++ List.replicate (xs.length - k) z).take n = xs.map enc := by
 have : k = xs.length := by omega
 subst this; subst hn
 simp
 exact List.take_of_length_le (by simp)
theorem toOp_ok (x : OpL) : CallsTo EE 121 [agg (encOp x)] (· = agg (encOp x)) := by
 refine callsTo_of_AW (fn := Tryz.f121) Tryz.func121 rfl (by kernel_rfl) rfl ?_
 conv => whnf
 rfl
theorem toOpS_ok (xs : List OpL) (hx : xs.length ≤ 1048576) : CallsTo EE 76 [sl (xs.map encOp)] (· = .uq 107 4 (xs.map encOp)) := by
 refine callsTo_of_AW (fn := Tryz.f76) Tryz.func76 rfl (by kernel_rfl) rfl ?_
 conv => whnf
 refine ⟨by simp; omega, ?_⟩
 conv => whnf
 refine yU (fun k : Nat => [(0, sl (xs.map encOp)), (3, .ref 7 0 (xs.map encOp).length), (4, i64 k)]) (fun k => [(7, .ds 107 4 ((xs.take k).map encOp ++ List.replicate (xs.length - k) [di 0, di 0, di 0, .flt 0]))]) (fun k => xs.length - k) (fun k => k ≤ xs.length) 0 .refl ⟨rfl, by simp [put, St.new, St.setH, St.kill]; rfl, rfl, trivial⟩ ⟨?_, trivial⟩ (Nat.zero_le _) ?_
 ·simp [put, St.new, St.setH, St.kill, v6]; rfl
 intro k τ H hk
 conv => whnf
 refine ⟨fun h => ?_, fun h => ?_⟩
 ·have hlt := xY h
  conv => whnf
  refine ⟨encOp xs[k], yC encOp hlt rfl, ?_⟩
  conv => whnf
  refine ⟨_, toOp_ok xs[k], ?_⟩
  rintro r rfl
  conv => whnf
  refine ⟨⟨by omega, by simp; omega⟩, ?_⟩
  conv => whnf
  refine ⟨k + 1, by omega, by show xs.length - (k + 1) < xs.length - k; omega, ⟨rfl, rfl, next_i64 hlt (by omega), trivial⟩, ⟨?_, trivial⟩⟩
  exact congrArg (fun l => some (Ob.ds 107 4 l)) (w8 xs encOp [di 0, di 0, di 0, .flt 0] k 4 hlt rfl)
 ·have hge := ge_map h
  conv => whnf
  exact congrArg (AV.uq 107 4) (set_end xs encOp [di 0, di 0, di 0, .flt 0] k _ hge hk (by simp))
theorem toOpSS_ok (xs : List (List OpL)) (hx : xs.length ≤ 1048576) (hx2 : ∀ x ∈ xs, x.length ≤ 1048576) : CallsTo EE 42 [sl (xs.map zW)] (· = .uq 104 1 (xs.map zW)) := by
 refine callsTo_of_AW (fn := Tryz.f42) Tryz.func42 rfl (by kernel_rfl) rfl ?_
 conv => whnf
 refine ⟨by simp; omega, ?_⟩
 conv => whnf
 refine yU (fun k : Nat => [(0, sl (xs.map zW)), (3, .ref 7 0 (xs.map zW).length), (4, i64 k)]) (fun k => [(7, .ds 104 1 ((xs.take k).map zW ++ List.replicate (xs.length - k) [.nil]))]) (fun k => xs.length - k) (fun k => k ≤ xs.length) 0 .refl ⟨rfl, by simp [put, St.new, St.setH, St.kill]; rfl, rfl, trivial⟩ ⟨?_, trivial⟩ (Nat.zero_le _) ?_
 ·simp [put, St.new, St.setH, St.kill, v6]; rfl
 intro k τ H hk
 conv => whnf
 refine ⟨fun h => ?_, fun h => ?_⟩
 ·have hlt := xY h
  conv => whnf
  refine ⟨zW xs[k], yC zW hlt rfl, ?_⟩
  conv => whnf
  refine ⟨_, toOpS_ok xs[k] (hx2 _ (List.getElem_mem hlt)), ?_⟩
  rintro r rfl
  conv => whnf
  refine .inl ?_
  conv => whnf
  refine ⟨⟨by omega, by simp; omega⟩, ?_⟩
  conv => whnf
  refine ⟨k + 1, by omega, by show xs.length - (k + 1) < xs.length - k; omega, ⟨rfl, rfl, next_i64 hlt (by omega), trivial⟩, ⟨?_, trivial⟩⟩
  exact congrArg (fun l => some (Ob.ds 104 1 l)) (w8 xs zW [.nil] k 1 hlt rfl)
 ·have hge := ge_map h
  conv => whnf
  exact congrArg (AV.uq 104 1) (set_end xs zW [.nil] k _ hge hk (by simp))
theorem mO (p : ProgL) (h : p.rs.length ≤ 1048576 ∧ ∀ x ∈ p.rs, x.length ≤ 1048576) : CallsTo EE 13 [agg (encProg p)] (· = agg (encProg p)) := by
 refine callsTo_of_AW (fn := Tryz.f13) Tryz.func13 rfl (by kernel_rfl) rfl ?_
 conv => whnf
 refine ⟨_, toOpSS_ok _ h.1 h.2, ?_⟩
 rintro r rfl
 refine .inl ?_
 conv => whnf
 rfl
def HuntL.small (h : HuntL) : Prop := (h.p.rs.length ≤ 1048576 ∧ ∀ x ∈ h.p.rs, x.length ≤ 1048576) ∧ (h.kept.length ≤ 1048576 ∧ ∀ x ∈ h.kept, x.ranks.length ≤ 1048576 ∧ x.changes.length ≤ 1048576) ∧ h.cov.length ≤ 1048576 ∧ (h.finds.length ≤ 1048576 ∧ ∀ x ∈ h.finds, x.picks.length ≤ 1048576)
end Ai
end
section
set_option maxRecDepth 100000
namespace Ai
open Go Go.Proofs
def InR (n lo hi : Int) : Prop := lo ≤ n ∧ n ≤ hi
theorem qH (n lo hi : Int) : CallsTo EE 52 [i64 n, i64 lo, i64 hi] (· = bp (InR n lo hi)) := by
 refine callsTo_of_AW (fn := Tryz.f52) Tryz.func52 rfl (by kernel_rfl) rfl ?_
 conv => whnf
 repeat' (refine kbi (fun h => ?_) (fun h => ?_) <;> first | contradiction | conv => whnf)
 all_goals simp only [decide_eq_true_eq] at *
 all_goals first | exact bpt (by unfold InR; omega) | exact bpf (by unfold InR; omega)
def PairL.good (x : PairL) : Prop := InR x.cell 0 99 ∧ InR x.one 0 999 ∧ InR x.two 0 999
theorem l1Has_ok (xs : List Int) (n : Int) (hx : xs.length ≤ 1048576) : CallsTo EE 112 [sl (xs.map encInt), i64 n] (· = bp (n ∈ xs)) := by
 refine callsTo_of_AW (fn := Tryz.f112) Tryz.func112 rfl (by kernel_rfl) rfl ?_
 conv => whnf
 refine yU (fun k : Nat => [(1, i64 n), (7, sl (xs.map encInt)), (8, i64 (xs.map encInt).length), (9, i64 k)]) (fun k => []) (fun k => xs.length - k) (fun k => k ≤ xs.length ∧ ∀ x ∈ xs.take k, x ≠ n) 0 .refl ⟨rfl, rfl, rfl, rfl, trivial⟩ trivial ⟨Nat.zero_le _, jU⟩ ?_
 rintro k τ H ⟨hk, ih⟩
 conv => whnf
 refine kbi (fun h => ?_) (fun h => ?_)
 ·have hlt := xY h
  conv => whnf
  refine ⟨encInt xs[k], yC encInt hlt rfl, ?_⟩
  conv => whnf
  refine kbi (fun h => ?_) (fun h => ?_)
  ·conv => whnf
   refine bpt ?_
   simp at h
   exact h ▸ List.getElem_mem hlt
  ·conv => whnf
   simp at h
   exact ⟨k + 1, ⟨by omega, qF ih hlt h⟩, by show xs.length - (k + 1) < xs.length - k; omega, ⟨rfl, rfl, rfl, next_i64 hlt (by omega), trivial⟩, trivial⟩
 ·conv => whnf
  refine bpf fun hm => ?_
  exact kE ih (by simp at h; omega) n hm rfl
def AllIn (xs : List Int) (lo hi : Int) : Prop := ∀ x ∈ xs, InR x lo hi
theorem l1All_ok (xs : List Int) (lo hi : Int) (hx : xs.length ≤ 1048576) : CallsTo EE 75 [sl (xs.map encInt), i64 lo, i64 hi] (· = bp (AllIn xs lo hi)) := by
 refine callsTo_of_AW (fn := Tryz.f75) Tryz.func75 rfl (by kernel_rfl) rfl ?_
 conv => whnf
 refine yU (fun k : Nat => [(1, i64 lo), (2, i64 hi), (9, sl (xs.map encInt)), (10, i64 (xs.map encInt).length), (11, i64 k)]) (fun k => []) (fun k => xs.length - k) (fun k => k ≤ xs.length ∧ ∀ x ∈ xs.take k, InR x lo hi) 0 .refl ⟨rfl, rfl, rfl, rfl, rfl, trivial⟩ trivial ⟨Nat.zero_le _, jU⟩ ?_
 rintro k τ H ⟨hk, ih⟩
 conv => whnf
 refine kbi (fun h => ?_) (fun h => ?_)
 ·have hlt := xY h
  conv => whnf
  refine ⟨encInt xs[k], yC encInt hlt rfl, ?_⟩
  conv => whnf
  refine ocase (qH _ _ _) (fun h => ?_) (fun h => ?_)
  ·conv => whnf
   exact ⟨k + 1, ⟨by omega, qF ih hlt h⟩, by show xs.length - (k + 1) < xs.length - k; omega, ⟨rfl, rfl, rfl, rfl, next_i64 hlt (by omega), trivial⟩, trivial⟩
  ·conv => whnf
   exact bpf fun hm => h (hm _ (List.getElem_mem hlt))
 ·conv => whnf
  exact bpt (kE ih (by simp at h; omega))
def Rise (xs : List Int) (lo hi : Int) : Prop := ∀ (i : Nat) (h : i < xs.length), InR xs[i] lo hi ∧ ∀ (j : Nat) (hj : j + 1 = i), xs[j] < xs[i]
end Ai
end
section
set_option maxRecDepth 100000
namespace Ai
open Go Go.Proofs
theorem l1Has_at (ys : List (List D)) (xs : List Int) (n : Int) (hy : ys = xs.map encInt) (hx : xs.length ≤ 1048576) : CallsTo EE 112 [sl ys, i64 n] (· = bp (n ∈ xs)) := hy ▸ l1Has_ok xs n hx
def PctL.goodS (s : PctL) : Prop := s.ranks.length = 5 ∧ AllIn s.ranks 0 4 ∧ (∀ (k : Nat) (h : k < s.ranks.length), s.ranks[k] ∉ s.ranks.take k) ∧ s.changes.length ≤ 4 ∧ Rise s.changes 0 199
def PairL.key (x : PairL) : Int := x.cell * 1000000 + x.one * 1000 + x.two
def PairsR (xs : List PairL) : Prop := (∀ (i : Nat) (h : i < xs.length), xs[i].good ∧ ∀ (j : Nat) (hj : j + 1 = i), xs[j].key < xs[i].key) ∧ xs.length ≤ 200
def Picks (xs : List Int) : Prop := xs.length ≤ 200 ∧ AllIn xs 0 999
end Ai
end
section
set_option maxRecDepth 100000
namespace Ai
open Go Go.Proofs Ieee
theorem kP : double.read 0 = .number false 0 double.leastPlace := by decide
theorem order_zero {v : Nat} (hv : v < 18446744073709551616) (h : double.order v 0 = some .eq) : v = 0 ∨ v = 9223372036854775808 := by
 unfold Format.order at h
 rw [kP] at h
 unfold Format.read at h
 have e1 : double.signWeight = 9223372036854775808 := by decide
 have e2 : double.binade = 4503599627370496 := by decide
 rw [e1, e2] at h
 simp only at h
 split at h
 ·simp only [Datum.order, Option.some.injEq] at h
  have hb : (Min.min double.leastPlace double.leastPlace) = double.leastPlace := by decide
  rw [hb, Int.sub_self] at h
  have h2 := Std.LawfulEqCmp.eq_of_compare h
  simp only [signed] at h2
  have hs : v % 9223372036854775808 = 0 := by
   split at h2
   ·simp at h2; omega
   ·simp at h2; omega
  omega
 ·split at h
  ·simp only [Datum.order, Option.some.injEq] at h
   have h2 := Std.LawfulEqCmp.eq_of_compare h
   simp only [signed] at h2
   exfalso
   split at h2
   ·simp [Nat.shiftLeft_eq] at h2
    rcases Int.mul_eq_zero.1 h2 with h3 | h3
    ·omega
    ·exact absurd h3 (Int.ne_of_gt (Int.pow_pos (by decide)))
   ·simp [Nat.shiftLeft_eq] at h2
    rcases Int.mul_eq_zero.1 h2 with h3 | h3
    ·omega
    ·exact absurd h3 (Int.ne_of_gt (Int.pow_pos (by decide)))
  ·split at h
   ·simp only [Datum.order, Option.some.injEq] at h
    split at h <;> cases h
   ·cases h
theorem dQ (v : Nat) : fcmp .neq v v = zO v := by
 unfold fcmp zO Format.order
 simp only
 cases h : double.read v with
 |nan s f => rfl
 |infinity s => cases s <;> rfl
 |number s m e => simp [Datum.order, Datum.isNaN, Std.ReflCmp.compare_self]
def jR (x : Nat) : Prop := fcmp .lss x 0 = true ∨ (fcmp .eql x 0 = true ∧ fcmp .lss (fop .quo 4607182418800017408 x) 0 = true)
theorem vN (x : Nat) : CallsTo EE 165 [.d (.flt x)] (· = bp (zO x = true)) := by
 refine callsTo_of_AW (fn := Tryz.f165) Tryz.func165 rfl (by kernel_rfl) rfl ?_
 conv => whnf
 refine kbi (fun h => ?_) (fun h => ?_)
 ·conv => whnf
  exact bpt (by rw [← dQ]; exact h)
 ·conv => whnf
  exact bpf (by rw [← dQ]; exact h)
theorem qC (x : Nat) : CallsTo EE 191 [.d (.flt x)] (· = bp (jR x)) := by
 refine callsTo_of_AW (fn := Tryz.f191) Tryz.func191 rfl (by kernel_rfl) rfl ?_
 conv => whnf
 repeat' (refine kbi (fun h => ?_) (fun h => ?_) <;> first | contradiction | conv => whnf)
 ·exact bpt (.inl h)
 ·rename_i h1 h2
  exact bpt (.inr ⟨h2, h⟩)
 ·rename_i h1 h2
  exact bpf (fun hm => hm.elim (fun a => h1 a) fun a => h a.2)
 ·rename_i h1
  exact bpf (fun hm => hm.elim (fun a => h1 a) fun a => h a.1)
theorem zero_iff {v : Nat} (hv : v < 18446744073709551616) (hn : ¬ zO v = true) : (fcmp .eql v 0 = true ∧ (jR v ↔ jR 0)) ↔ v = 0 := by
 constructor
 ·rintro ⟨h1, h2⟩
  have h3 : double.order v 0 = some .eq := by simpa [fcmp] using h1
  rcases order_zero hv h3 with h4 | h4
  ·exact h4
  ·subst h4
   exfalso
   have m1 : jR 9223372036854775808 := .inr ⟨by decide, by decide⟩
   have m0 : ¬ jR 0 := by unfold jR; decide
   exact m0 (h2.1 m1)
 ·rintro rfl
  exact ⟨by decide, Iff.rfl⟩
theorem cG (v : Nat) (hv : v < 18446744073709551616) : CallsTo EE 156 [.d (.flt v), .d (.flt 0)] (· = bp (v = 0)) := by
 refine callsTo_of_AW (fn := Tryz.f156) Tryz.func156 rfl (by kernel_rfl) rfl ?_
 conv => whnf
 refine ocase (vN v) (fun h => ?_) (fun h => ?_)
 ·conv => whnf
  refine ocase (vN v) (fun h2 => ?_) (fun h2 => ?_)
  ·conv => whnf
   refine ocase (vN 0) (fun h3 => ?_) (fun h3 => ?_)
   ·exact absurd h3 (by decide)
   ·conv => whnf
    exact bpf fun e => h3 (e ▸ h)
  ·exact absurd h h2
 ·conv => whnf
  refine ocase (vN 0) (fun h3 => ?_) (fun h3 => ?_)
  ·exact absurd h3 (by decide)
  ·conv => whnf
   refine kbi (fun h4 => ?_) (fun h4 => ?_)
   ·conv => whnf
    refine ocase (qC v) (fun h5 => ?_) (fun h5 => ?_)
    ·conv => whnf
     refine ocase (qC 0) (fun h6 => ?_) (fun h6 => ?_)
     ·exact absurd h6 (by unfold jR; decide)
     ·conv => whnf
      refine kbi (fun h7 => ?_) (fun h7 => ?_)
      ·exact absurd h7 (by decide)
      ·conv => whnf
       exact bpf fun e => by subst e; exact h6 h5
    ·conv => whnf
     refine ocase (qC 0) (fun h6 => ?_) (fun h6 => ?_)
     ·exact absurd h6 (by unfold jR; decide)
     ·conv => whnf
      refine kbi (fun h7 => ?_) (fun h7 => ?_)
      ·conv => whnf
       exact bpt ((zero_iff hv h).1 ⟨h4, ⟨fun a => absurd a h5, fun a => absurd a h6⟩⟩)
      ·exact absurd (by decide) h7
   ·conv => whnf
    exact bpf fun e => h4 (by subst e; decide)
end Ai
end
section
set_option maxRecDepth 100000
namespace Ai
open Go Go.Proofs
def bR (c : Int) : Prop := c = 2 ∨ c = 3 ∨ c = 10 ∨ c = 11 ∨ c = 12 ∨ c = 13 ∨ c = 14 ∨ c = 17
def fL (c : Int) : List UInt8 := if c = 1 then [118] else if c = 2 ∨ c = 3 ∨ c = 10 ∨ c = 11 ∨ c = 12 ∨ c = 13 ∨ c = 14 ∨ c = 17 then [97] else if c = 16 then [97, 98] else []
theorem l2Uses_ok (c : Int) : CallsTo EE 155 [i64 c] (· = sv (fL c)) := by
 refine callsTo_of_AW (fn := Tryz.f155) Tryz.func155 rfl (by kernel_rfl) rfl ?_
 conv => whnf
 repeat' (refine kbi (fun h => ?_) (fun h => ?_) <;> first | contradiction | conv => whnf)
 all_goals simp only [beq_iff_eq] at *
 all_goals subst_vars
 all_goals first | rfl | (simp [fL, sv, *]; done)
def OpL.plainS (o : OpL) : Prop := InR o.code 1 17 ∧ InR o.a 0 999 ∧ InR o.b 0 999 ∧ (o.code = 1 ∨ o.v = 0) ∧ (bR o.code ∨ o.code = 16 ∨ o.a = 0) ∧ (o.code = 16 ∨ o.b = 0)
theorem u1 (c : Int) : fL c = [118] ↔ c = 1 := by
 unfold fL; split
 ·simp [*]
 ·split
  ·simp [*]
  ·split <;> simp [*]
theorem u2 (c : Int) : fL c = [97] ↔ bR c := by
 unfold fL bR; split
 ·rename_i h; subst h; simp
 ·split
  ·simp [*]
  ·split <;> simp [*]
theorem u3 (c : Int) : fL c = [97, 98] ↔ c = 16 := by
 unfold fL; split
 ·rename_i h; subst h; simp
 ·split
  ·rename_i h; constructor
   ·intro h2; simp at h2
   ·intro h2; omega
  ·split <;> simp [*]
theorem l2Plain_ok (o : OpL) (hv : o.v < 18446744073709551616) : CallsTo EE 120 [agg (encOp o)] (· = bp o.plainS) := by
 refine callsTo_of_AW (fn := Tryz.f120) Tryz.func120 rfl (by kernel_rfl) rfl ?_
 conv => whnf
 refine ⟨_, l2Uses_ok _, ?_⟩
 rintro r rfl
 conv => whnf
 repeat' first
  |(refine kbi (fun h => ?_) (fun h => ?_) <;> first | contradiction | conv => whnf)
  |(refine ocase (qH _ _ _) (fun h => ?_) (fun h => ?_) <;> first | contradiction | conv => whnf)
  |(refine ocase (cG _ hv) (fun h => ?_) (fun h => ?_) <;> first | contradiction | conv => whnf)
 all_goals try simp only [u1, u2, u3, beq_iff_eq] at *
 all_goals first | exact bpt (by unfold OpL.plainS; simp_all) | exact bpf (by unfold OpL.plainS; simp_all)
def OpL.atS (p : ProgL) (long : Int) (o : OpL) : Prop := ((o.code = 2 ∨ o.code = 3) → o.a < p.cells) ∧ ((o.code = 10 ∨ o.code = 11) → o.a ≤ long) ∧ ((o.code = 12 ∨ o.code = 13) → o.a < p.locks) ∧ (o.code = 14 → o.a < p.rs.length) ∧ (o.code = 16 → o.a < p.conds ∧ o.b < p.locks) ∧ (o.code = 17 → o.a < p.conds)
def OpL.goodS (p : ProgL) (long : Int) (o : OpL) : Prop := o.plainS ∧ o.atS p long
theorem l2Op_ok (p : ProgL) (long : Int) (o : OpL) (hv : o.v < 18446744073709551616) : CallsTo EE 74 [agg (encProg p), i64 long, agg (encOp o)] (· = bp (o.goodS p long)) := by
 refine callsTo_of_AW (fn := Tryz.f74) Tryz.func74 rfl (by kernel_rfl) rfl ?_
 conv => whnf
 refine ocase (l2Plain_ok o hv) (fun h0 => ?_) (fun h0 => ?_)
 rotate_left
 ·conv => whnf
  exact bpf fun hm => h0 hm.1
 conv => whnf
 repeat' (refine kbi (fun h => ?_) (fun h => ?_) <;> first | contradiction | conv => whnf)
 all_goals simp only [beq_iff_eq, decide_eq_true_eq, List.length_map] at *
 all_goals first
  |exact bpt ⟨h0, by unfold OpL.atS; refine ⟨?_, ?_, ?_, ?_, ?_, ?_⟩ <;> intros <;> omega⟩
  |exact bpf fun hm => by
    obtain ⟨_, a1, a2, a3, a4, a5, a6⟩ := hm
    omega
def ProgL.headS (p : ProgL) : Prop := InR p.cells 0 4 ∧ InR p.locks 0 4 ∧ InR p.conds 0 2 ∧ InR p.rs.length 1 4
def ProgL.goodS (p : ProgL) : Prop := p.headS ∧ ∀ r ∈ p.rs, (∀ o ∈ r, o.goodS p r.length) ∧ r.length ≤ 24
def ProgL.flt (p : ProgL) : Prop := ∀ r ∈ p.rs, ∀ o ∈ r, o.v < 18446744073709551616
theorem mL (p : ProgL) (hs : p.rs.length ≤ 1048576 ∧ ∀ x ∈ p.rs, x.length ≤ 1048576) (hv : p.flt) : CallsTo EE 39 [agg (encProg p)] (· = bp p.goodS) := by
 refine callsTo_of_AW (fn := Tryz.f39) Tryz.func39 rfl (by kernel_rfl) rfl ?_
 conv => whnf
 refine ocase (qH _ _ _) (fun h1 => ?_) (fun h1 => ?_)
 rotate_left
 ·conv => whnf
  exact bpf fun hm => h1 hm.1.1
 conv => whnf
 refine ocase (qH _ _ _) (fun h2 => ?_) (fun h2 => ?_)
 rotate_left
 ·conv => whnf
  exact bpf fun hm => h2 hm.1.2.1
 conv => whnf
 refine ocase (qH _ _ _) (fun h3 => ?_) (fun h3 => ?_)
 rotate_left
 ·conv => whnf
  exact bpf fun hm => h3 hm.1.2.2.1
 conv => whnf
 refine ocase (qH _ _ _) (fun h4 => ?_) (fun h4 => ?_)
 rotate_left
 ·conv => whnf
  exact bpf fun hm => h4 (by simpa using hm.1.2.2.2)
 have hh : p.headS := ⟨h1, h2, h3, by simpa using h4⟩
 conv => whnf
 refine yU (fun k : Nat => [(1, .ptr 1 0), (31, sl (p.rs.map zW)), (32, i64 (p.rs.map zW).length), (33, i64 k)]) (fun k => [(1, .vs 31 ((encProg p).map .d))]) (fun k => p.rs.length - k) (fun k => k ≤ p.rs.length ∧ ∀ r ∈ p.rs.take k, (∀ o ∈ r, o.goodS p r.length) ∧ r.length ≤ 24) 0 .refl ⟨rfl, rfl, rfl, rfl, trivial⟩ ⟨rfl, trivial⟩ ⟨Nat.zero_le _, jU⟩ ?_
 rintro k τ H ⟨hk, ih⟩
 conv => whnf
 refine kbi (fun h => ?_) (fun h => ?_)
 ·have hlt := xY h
  conv => whnf
  refine ⟨zW p.rs[k], yC zW hlt rfl, ?_⟩
  conv => whnf
  have hrl := hs.2 _ (List.getElem_mem hlt)
  refine yU (fun j : Nat => [(1, .ptr 1 0), (31, sl (p.rs.map zW)), (32, i64 (p.rs.map zW).length), (33, i64 k), (4, sl (p.rs[k].map encOp)), (37, sl (p.rs[k].map encOp)), (38, i64 (p.rs[k].map encOp).length), (39, i64 j)]) (fun j => [(1, .vs 31 ((encProg p).map .d))]) (fun j => p.rs[k].length - j) (fun j => j ≤ p.rs[k].length ∧ ∀ o ∈ p.rs[k].take j, o.goodS p p.rs[k].length) 0 .refl ⟨rfl, rfl, rfl, rfl, rfl, rfl, rfl, rfl, trivial⟩ ⟨rfl, trivial⟩ ⟨Nat.zero_le _, jU (xs := p.rs[k])⟩ ?_
  rintro j τ2 H2 ⟨hj, ih2⟩
  conv => whnf
  refine kbi (fun h5 => ?_) (fun h5 => ?_)
  ·have hlt2 := xY h5
   conv => whnf
   refine ⟨encOp p.rs[k][j], yC encOp hlt2 rfl, ?_⟩
   conv => whnf
   have hop : CallsTo EE 74 [agg (encProg p), i64 (p.rs[k].map encOp).length, agg (encOp p.rs[k][j])] (· = bp (p.rs[k][j].goodS p p.rs[k].length)) := by
    rw [List.length_map]
    exact l2Op_ok p _ _ (hv _ (List.getElem_mem hlt) _ (List.getElem_mem hlt2))
   refine ocase hop (fun h6 => ?_) (fun h6 => ?_)
   ·conv => whnf
    exact ⟨j + 1, ⟨by omega, qF ih2 hlt2 h6⟩, by show p.rs[k].length - (j + 1) < p.rs[k].length - j; omega, ⟨rfl, rfl, rfl, rfl, rfl, rfl, rfl, next_i64 hlt2 (by omega), trivial⟩, ⟨rfl, trivial⟩⟩
   ·conv => whnf
    exact bpf fun hm => h6 ((hm.2 _ (List.getElem_mem hlt)).1 _ (List.getElem_mem hlt2))
  ·have hge2 : p.rs[k].length ≤ j := by simpa using h5
   have hall := kE ih2 hge2
   conv => whnf
   refine kbi (fun h7 => ?_) (fun h7 => ?_)
   ·conv => whnf
    refine bpf fun hm => ?_
    have := (hm.2 _ (List.getElem_mem hlt)).2
    simp at h7
    omega
   ·conv => whnf
    simp at h7
    exact ⟨k + 1, ⟨by omega, qF ih hlt ⟨hall, by omega⟩⟩, by show p.rs.length - (k + 1) < p.rs.length - k; omega, ⟨rfl, rfl, rfl, next_i64 hlt (by omega), trivial⟩, ⟨rfl, trivial⟩⟩
 ·have hge : p.rs.length ≤ k := by simpa using h
  conv => whnf
  exact bpt ⟨hh, kE ih hge⟩
end Ai
end
section
set_option maxRecDepth 100000
namespace Ai
open Go Go.Proofs
def FindsR (xs : List FoundL) : Prop := ∀ (i : Nat) (h : i < xs.length), Picks xs[i].picks ∧ ∀ x ∈ xs.take i, x.sign ≠ xs[i].sign
def HuntL.goodS (h : HuntL) : Prop := (∀ s ∈ h.kept, s.goodS) ∧ h.p.goodS ∧ h.kept.length ≤ 30 ∧ PairsR h.cov ∧ FindsR h.finds ∧ InR h.tried 0 60
end Ai
end
section
set_option maxRecDepth 100000
namespace Ai
open Go Go.Proofs
theorem wQ (u n : Nat) (hn : 1 ≤ n) (h : u < 10 ^ n) : (Lib.decDigits u).length ≤ n := by
 induction n generalizing u with
 |zero => omega
 |succ n ih =>
  by_cases hu : u < 10
  ·rw [Lib.decDigits, dif_pos hu]; simp
  ·rw [Lib.decDigits, dif_neg hu]
   have : 1 ≤ n := by
    rcases Nat.eq_zero_or_pos n with h0 | h0
    ·subst h0; simp at h; omega
    ·exact h0
   have := ih (u / 10) this (by rw [Nat.pow_succ] at h; omega)
   simp; omega
theorem tN (n : Nat) (h : n < 10) : UInt8.ofNat (IntKind.u8.wrap (48 + (n : Int))).toNat = UInt8.ofNat (48 + n) := by
 have : IntKind.u8.wrap (48 + (n : Int)) = ((48 + n : Nat) : Int) := by
  rw [IntKind.wrap_u8]; omega
 rw [this]; rfl
theorem l1Num_nat : ∀ (n : Nat), n ≤ 9223372036854775807 → CallsTo EE 88 [i64 n] (· = sv (Lib.decDigits n)) := by
 intro n
 induction n using Nat.strongRecOn with
 | _ n ih =>
  intro hn
  refine callsTo_of_AW (fn := Tryz.f88) Tryz.func88 rfl (by kernel_rfl) rfl ?_
  conv => whnf
  refine kbi (fun h => ?_) (fun h => ?_)
  ·have hlt : n < 10 := by simp at h; omega
   conv => whnf
   refine ⟨[48 + (n : Int)].map fun m => IntKind.u8.wrap m, ?_, ?_⟩
   ·rw [zH (by omega) (by omega)]; rfl
   conv => whnf
   rw [Lib.decDigits, dif_pos hlt]
   exact congrArg (fun b => sv [b]) (tN n hlt)
  ·have hge : 10 ≤ n := by simp at h; omega
   conv => whnf
   refine ⟨by kernel_rfl, ?_⟩
   conv => whnf
   refine ⟨by omega, ?_⟩
   conv => whnf
   have e1 : IntKind.i64.wrap ((n : Int).tdiv 10) = ((n / 10 : Nat) : Int) := by
    rw [zH]
    ·rw [Int.tdiv_eq_ediv_of_nonneg (by omega)]; omega
    ·rw [Int.tdiv_eq_ediv_of_nonneg (by omega)]; omega
    ·rw [Int.tdiv_eq_ediv_of_nonneg (by omega)]; omega
   have hc := ih (n / 10) (by omega) (by omega)
   rw [← e1] at hc
   refine ⟨_, hc, ?_⟩
   conv => whnf
   refine ⟨by omega, ?_⟩
   conv => whnf
   have e2 : (n : Int).tmod 10 = ((n % 10 : Nat) : Int) := by rw [Int.tmod_eq_emod_of_nonneg (by omega)]; omega
   refine ⟨[48 + ((n % 10 : Nat) : Int)].map fun m => IntKind.u8.wrap m, ?_, ?_⟩
   ·rw [e2, zH (by omega) (by omega)]; rfl
   conv => whnf
   refine ⟨?_, ?_⟩
   ·have := wQ (n / 10) 19 (by omega) (by omega)
    simp; omega
   conv => whnf
   conv => rhs; rw [Lib.decDigits, dif_neg (by omega)]
   exact congrArg (fun b => sv (Lib.decDigits (n / 10) ++ [b])) (tN (n % 10) (by omega))
theorem kW (n : Int) (h0 : 0 ≤ n) (h1 : n ≤ 9223372036854775807) : CallsTo EE 88 [i64 n] (· = sv (Lib.decDigits n.toNat)) := by
 have := l1Num_nat n.toNat (by omega)
 rwa [Int.toNat_of_nonneg h0] at this
def txt (xs : List Int) : List UInt8 := Lib.join (xs.map fun n => Lib.decDigits n.toNat) [44]
theorem cH (sep x : List UInt8) (r : List (List UInt8)) : Lib.joinTail sep (r ++ [x]) = Lib.joinTail sep r ++ (sep ++ x) := by simp [Lib.joinTail]
theorem txt_nil : txt [] = [] := rfl
theorem txt_one (xs : List Int) (h : 0 < xs.length) : txt (xs.take (0 + 1)) = Lib.decDigits (xs[0]).toNat := by
 rw [List.take_add_one, List.getElem?_eq_getElem h]
 simp [txt, Lib.join_one]
theorem w4 (xs : List Int) (k : Nat) (h : k < xs.length) (hk : 0 < k) : txt (xs.take (k + 1)) = txt (xs.take k) ++ [44] ++ Lib.decDigits (xs[k]).toNat := by
 rw [List.take_add_one, List.getElem?_eq_getElem h]
 generalize xs[k] = x
 cases xs with
 |nil => simp at h
 |cons y ys =>
  obtain ⟨j, rfl⟩ : ∃ j, k = j + 1 := ⟨k - 1, by omega⟩
  simp only [txt, List.take_succ_cons, List.map_append, List.map_cons, List.cons_append, Lib.join_cons, Option.toList, List.map_nil]
  rw [cH]
  simp
theorem iC (xs : List Int) (hp : ∀ x ∈ xs, InR x 0 999) : ∀ k, k ≤ xs.length → (txt (xs.take k)).length ≤ 4 * k := by
 intro k
 induction k with
 |zero => intro _; simp [txt_nil]
 |succ k ih =>
  intro hk
  have hlt : k < xs.length := by omega
  have := ih (by omega)
  have hd : (Lib.decDigits (xs[k]).toNat).length ≤ 3 := wQ _ 3 (by omega) (by have := hp _ (List.getElem_mem hlt); unfold InR at this; omega)
  rcases Nat.eq_zero_or_pos k with h0 | h0
  ·subst h0; rw [txt_one _ hlt]; omega
  ·rw [w4 _ _ hlt h0]; simp; omega
theorem l4List_ok (xs : List Int) (hp : Picks xs) : CallsTo EE 90 [sl (xs.map encInt)] (· = sv (txt xs)) := by
 have hx := hp.1
 refine callsTo_of_AW (fn := Tryz.f90) Tryz.func90 rfl (by kernel_rfl) rfl ?_
 conv => whnf
 refine yU (fun k : Nat => [(3, sv (txt (xs.take k))), (6, sl (xs.map encInt)), (7, i64 (xs.map encInt).length), (8, i64 k)]) (fun k => []) (fun k => xs.length - k) (fun k => k ≤ xs.length) 0 .refl ⟨rfl, rfl, rfl, rfl, trivial⟩ trivial (Nat.zero_le _) ?_
 rintro k τ H hk
 conv => whnf
 refine kbi (fun h => ?_) (fun h => ?_)
 ·have hlt := xY h
  have hr := hp.2 _ (List.getElem_mem hlt)
  unfold InR at hr
  have htl := iC xs hp.2 k hk
  have hd : (Lib.decDigits (xs[k]).toNat).length ≤ 3 := wQ _ 3 (by omega) (by omega)
  conv => whnf
  refine ⟨encInt xs[k], yC encInt hlt rfl, ?_⟩
  conv => whnf
  refine kbi (fun h2 => ?_) (fun h2 => ?_)
  ·simp at h2
   conv => whnf
   refine ⟨?_, ?_⟩
   ·simp; omega
   conv => whnf
   refine ⟨_, kW _ hr.1 (by omega), ?_⟩
   rintro r rfl
   conv => whnf
   refine ⟨?_, ?_⟩
   ·simp; omega
   conv => whnf
   refine ⟨k + 1, by omega, by show xs.length - (k + 1) < xs.length - k; omega, ⟨?_, rfl, rfl, next_i64 hlt (by omega), trivial⟩, trivial⟩
   exact congrArg sv (w4 xs k hlt (by omega)).symm
  ·simp at h2
   subst h2
   conv => whnf
   refine ⟨_, kW _ hr.1 (by omega), ?_⟩
   rintro r rfl
   conv => whnf
   refine ⟨?_, ?_⟩
   ·simp [txt_nil]; omega
   conv => whnf
   refine ⟨1, by omega, by show xs.length - 1 < xs.length - 0; omega, ⟨?_, rfl, rfl, next_i64 hlt (by omega), trivial⟩, trivial⟩
   exact congrArg sv (txt_one xs hlt).symm
 ·have hge : xs.length ≤ k := by simpa using h
  conv => whnf
  rw [List.take_of_length_le hge]
def dashT (s : List UInt8) : List UInt8 := if s = [] then [45] else s
end Ai
end
section
set_option maxRecDepth 100000
namespace Ai
open Go Go.Proofs
theorem in_ok (n lo hi : Int) : CallsTo EE 56 [i64 n, i64 lo, i64 hi] (· = bp (InR n lo hi)) := by
 refine callsTo_of_AW (fn := Tryz.f56) Tryz.func56 rfl (by kernel_rfl) rfl ?_
 conv => whnf
 repeat' (refine kbi (fun h => ?_) (fun h => ?_) <;> first | contradiction | conv => whnf)
 all_goals simp only [decide_eq_true_eq] at *
 all_goals first | exact bpt (by unfold InR; omega) | exact bpf (by unfold InR; omega)
def dR (c : Int) : Int := if c = 2 ∨ c = 3 ∨ c = 10 ∨ c = 11 ∨ c = 12 ∨ c = 13 ∨ c = 14 ∨ c = 17 then 1 else if c = 16 then 2 else 0
theorem names_ok (o : OpL) : CallsTo EE 157 [agg (encOp o)] (· = i64 (dR o.code)) := by
 refine callsTo_of_AW (fn := Tryz.f157) Tryz.func157 rfl (by kernel_rfl) rfl ?_
 conv => whnf
 repeat' (refine kbi (fun h => ?_) (fun h => ?_) <;> first | contradiction | conv => whnf)
 all_goals simp only [beq_iff_eq] at *
 all_goals refine oB ?_
 all_goals unfold dR
 all_goals first | rw [if_pos (by omega)] | rw [if_neg (by omega), if_pos (by omega)] | rw [if_neg (by omega), if_neg (by omega)]
theorem IsNaN_ok (x : Nat) : CallsTo EE 192 [.d (.flt x)] (· = bp (zO x = true)) := by
 refine callsTo_of_AW (fn := Tryz.f192) Tryz.func192 rfl (by kernel_rfl) rfl ?_
 conv => whnf
 refine kbi (fun h => ?_) (fun h => ?_)
 ·conv => whnf
  exact bpt (by rw [← dQ]; exact h)
 ·conv => whnf
  exact bpf (by rw [← dQ]; exact h)
theorem bits_run (b : Nat) (w : World) : (callFunc 193 #[.float .f64 b]).run Tryz.prog w = .ok (.value (.int .u64 b)) w := by
 kernel_rfl
theorem uP (x : Nat) : CallsTo EE 193 [.d (.flt x)] (fun r => ∃ b : Nat, r = .d (.int .u64 b) ∧ canon b = x) := by
 intro w A vs hI hA
 obtain ⟨hl, hr⟩ := hA
 have h1 : vs.size = 1 := hl.symm
 obtain ⟨v, hv⟩ : ∃ v, vs = #[v] := ⟨vs[0], by apply Array.ext (by simp [h1]); intro i h2 h3; simp at h3; subst h3; rfl⟩
 subst hv
 have := hr 0 _ v rfl rfl
 cases this with
 |d _ _ hd => cases hd with
  |flt b =>
   unfold Invokes
   rw [show Sem.run EE.P (callFunc 193 #[Value.float .f64 b]) w = _ from bits_run b w]
   exact ⟨_, ⟨b, rfl, rfl⟩, RowKit.Below.refl _ _, .d _ _ (.int _ _)⟩
theorem tM {b : Nat} (h : canon b = 0) : b = 0 := by
 unfold canon at h
 cases hn : zO b with
 |true => rw [hn] at h; exact absurd (show nanC = 0 from h) (by decide)
 |false => rw [hn] at h; exact h
theorem bits_eq {v b c : Nat} (hb : canon b = v) (hc : canon c = 0) (h : ((b : Int) == (c : Int)) = true) : v = 0 := by
 have h1 : b = c := by
  have h2 : (b : Int) = c := by simpa using h
  omega
 rw [← hb, h1, hc]
theorem bits_ne {v b c : Nat} (hb : canon b = v) (hc : canon c = 0) (h : ¬ ((b : Int) == (c : Int)) = true) : ¬ v = 0 := by
 intro e
 subst e
 have h1 := tM hb
 have h2 := tM hc
 subst h1; subst h2
 exact h (by decide)
theorem SameNum0_ok (v : Nat) : CallsTo EE 158 [.d (.flt v), .d (.flt 0)] (· = bp (v = 0)) := by
 refine callsTo_of_AW (fn := Tryz.f158) Tryz.func158 rfl (by kernel_rfl) rfl ?_
 conv => whnf
 refine ocase (IsNaN_ok v) (fun h => ?_) (fun h => ?_)
 ·conv => whnf
  refine ocase (IsNaN_ok 0) (fun h3 => ?_) (fun h3 => ?_)
  ·exact absurd h3 (by decide)
  ·conv => whnf
   refine ⟨_, uP v, ?_⟩
   rintro r ⟨b, rfl, hb⟩
   conv => whnf
   refine ⟨_, uP 0, ?_⟩
   rintro r ⟨c, rfl, hc⟩
   conv => whnf
   refine kbi (fun h4 => ?_) (fun h4 => ?_)
   ·conv => whnf
    exact bpt (bits_eq hb hc h4)
   ·conv => whnf
    exact bpf (bits_ne hb hc h4)
 ·conv => whnf
  refine ⟨_, uP v, ?_⟩
  rintro r ⟨b, rfl, hb⟩
  conv => whnf
  refine ⟨_, uP 0, ?_⟩
  rintro r ⟨c, rfl, hc⟩
  conv => whnf
  refine kbi (fun h4 => ?_) (fun h4 => ?_)
  ·conv => whnf
   exact bpt (bits_eq hb hc h4)
  ·conv => whnf
   exact bpf (bits_ne hb hc h4)
def OpL.fitsI (o : OpL) : Prop := InR o.code 1 17 ∧ (0 < dR o.code ∨ o.a = 0) ∧ (1 < dR o.code ∨ o.b = 0) ∧ (o.code = 1 ∨ o.v = 0)
theorem fits_ok (o : OpL) : CallsTo EE 123 [agg (encOp o)] (· = bp o.fitsI) := by
  refine callsTo_of_AW (fn := Tryz.f123) Tryz.func123 rfl (by kernel_rfl) rfl ?_
  conv => whnf
  refine ⟨_, names_ok o, ?_⟩
  rintro r rfl
  conv => whnf
  repeat' first
    | (refine kbi (fun h => ?_) (fun h => ?_) <;> first | contradiction | conv => whnf)
    | (refine ocase (in_ok _ _ _) (fun h => ?_) (fun h => ?_) <;> first | contradiction | conv => whnf)
    | (refine ocase (SameNum0_ok _) (fun h => ?_) (fun h => ?_) <;> first | contradiction | conv => whnf)
  all_goals try simp only [decide_eq_true_eq, beq_iff_eq, gt_iff_lt] at *
  all_goals first
    | (refine bpt ?_; unfold OpL.fitsI; simp_all; done)
    | (refine bpf ?_; unfold OpL.fitsI; simp_all; done)
    | (refine bpf fun hm => ?_
       obtain ⟨b1, b2, b3, b4⟩ := hm
       rcases b2 with b2 | b2 <;> rcases b3 with b3 | b3 <;> rcases b4 with b4 | b4 <;> first | omega | contradiction)
def OpL.atI (p : ProgL) (many : Int) (o : OpL) : Prop := ((o.code = 2 ∨ o.code = 3) → InR o.a 0 (p.cells - 1)) ∧ ((o.code = 10 ∨ o.code = 11) → InR o.a 0 many) ∧ ((o.code = 12 ∨ o.code = 13) → InR o.a 0 (p.locks - 1)) ∧ (o.code = 14 → InR o.a 0 (p.rs.length - 1)) ∧ (o.code = 16 → InR o.a 0 (p.conds - 1) ∧ InR o.b 0 (p.locks - 1)) ∧ (o.code = 17 → InR o.a 0 (p.conds - 1))
def OpL.goodI (p : ProgL) (long : Int) (o : OpL) : Prop := o.fitsI ∧ o.atI p long
theorem isGood_ok (p : ProgL) (hp : p.headS) (long : Int) (o : OpL) : CallsTo EE 79 [agg (encProg p), agg (encOp o), i64 long] (· = bp (o.goodI p long)) := by
 obtain ⟨a1, a2, a3, a4⟩ := hp
 unfold InR at a1 a2 a3 a4
 have e1 : IntKind.i64.wrap (p.cells - 1) = p.cells - 1 := zH (by omega) (by omega)
 have e2 : IntKind.i64.wrap (p.locks - 1) = p.locks - 1 := zH (by omega) (by omega)
 have e3 : IntKind.i64.wrap (p.conds - 1) = p.conds - 1 := zH (by omega) (by omega)
 have e4 : IntKind.i64.wrap (((p.rs.map zW).length : Int) - 1) = (p.rs.length : Int) - 1 := by rw [List.length_map]; exact zH (by omega) (by omega)
 refine callsTo_of_AW (fn := Tryz.f79) Tryz.func79 rfl (by kernel_rfl) rfl ?_
 conv => whnf
 refine ocase (fits_ok o) (fun h0 => ?_) (fun h0 => ?_)
 rotate_left
 ·conv => whnf
  exact bpf fun hm => h0 hm.1
 conv => whnf
 repeat' first
  |(refine kbi (fun h => ?_) (fun h => ?_) <;> first | contradiction | conv => whnf)
  |(refine ocase (in_ok _ _ _) (fun h => ?_) (fun h => ?_) <;> first | contradiction | conv => whnf)
 all_goals simp only [beq_iff_eq, e1, e2, e3, e4] at *
 all_goals first
  |exact bpt ⟨h0, by unfold OpL.atI; refine ⟨?_, ?_, ?_, ?_, ?_, ?_⟩ <;> intros <;> first | assumption | omega | exact ⟨by assumption, by assumption⟩⟩
  |exact bpf fun hm => by
    obtain ⟨_, a1, a2, a3, a4, a5, a6⟩ := hm
    first
     |exact absurd (a1 (by omega)) (by assumption)
     |exact absurd (a2 (by omega)) (by assumption)
     |exact absurd (a3 (by omega)) (by assumption)
     |exact absurd (a4 (by omega)) (by assumption)
     |exact absurd (a5 (by omega)).1 (by assumption)
     |exact absurd (a5 (by omega)).2 (by assumption)
     |exact absurd (a6 (by omega)) (by assumption)
end Ai
end
section
set_option maxRecDepth 100000
namespace Ai
open Go Go.Proofs Go.Shelf
theorem ent26 : ∀ args w, (callFunc 102 args).run Tryz.prog w = .ok (.enter 102 args) w := enters_of Tryz.func102 (by kernel_rfl) rfl
theorem ent60 : ∀ args w, (callFunc 139 args).run Tryz.prog w = .ok (.enter 139 args) w := enters_of Tryz.func139 (by kernel_rfl) rfl
theorem ent50 : ∀ args w, (callFunc 50 args).run Tryz.prog w = .ok (.enter 50 args) w := enters_of Tryz.func50 (by kernel_rfl) rfl
theorem below_grow (w : World) (k : Nat) (os : Array Obj) : RowKit.Below w.heap.size w (Sort.grow (w.drewN k) os) := by
 refine ⟨?_, ?_, ?_, ?_, fun q hq => ?_⟩
 ·rfl
 ·rfl
 ·rfl
 ·simp [Sort.grow, World.drewN]
 ·show (w.heap ++ os)[q]? = w.heap[q]?
  exact Array.getElem?_append_left hq
theorem one_arg {w : World} {A : Nat → Prop} {x : AV} {vs : Array Value} (h : ARel w A [x] vs) : ∃ v, vs = #[v] ∧ VRel w (fun x => x < w.heap.size ∧ A x) (fun _ => none) (fun _ => none) x v := by
 obtain ⟨hl, hr⟩ := h
 have h1 : vs.size = 1 := hl.symm
 refine ⟨vs[0], ?_, hr 0 x _ rfl (by simp [h1])⟩
 apply Array.ext (by simp [h1])
 intro i h2 h3
 simp at h3
 subst h3
 rfl
theorem two_args {w : World} {A : Nat → Prop} {x y : AV} {vs : Array Value} (h : ARel w A [x, y] vs) : ∃ v u, vs = #[v, u] ∧ VRel w (fun x => x < w.heap.size ∧ A x) (fun _ => none) (fun _ => none) x v ∧ VRel w (fun x => x < w.heap.size ∧ A x) (fun _ => none) (fun _ => none) y u := by
 obtain ⟨hl, hr⟩ := h
 have h1 : vs.size = 2 := hl.symm
 refine ⟨vs[0], vs[1], ?_, hr 0 x _ rfl (by simp [h1]), hr 1 y _ rfl (by simp [h1])⟩
 apply Array.ext (by simp [h1])
 intro i h2 h3
 simp at h3
 match i, h3 with
 | 0, _ => rfl
 | 1, _ => rfl
theorem strRel {w : World} {ok : Nat → Prop} {m : Own} {H : Key → Option Ob} (l : List UInt8) : VRel w ok m H (sv l) (.string ⟨l.toArray⟩) := by
 have := RepD.str (w := w) (ok := ok) ⟨l.toArray⟩
 exact .d _ _ (by simpa using this)
theorem strInv {w : World} {ok : Nat → Prop} {l : List UInt8} {v : Value} (h : RepD w ok (.str l) v) : v = .string ⟨l.toArray⟩ := by
 cases h with
 |str s => simp
theorem intInv {w : World} {ok : Nat → Prop} {n : Int} {k : IntKind} {v : Value} (h : RepD w ok (.int k n) v) : v = .int k n := by cases h; rfl
theorem Itoa_ok (n : Int) (h0 : -9223372036854775808 ≤ n) (h1 : n ≤ 9223372036854775807) : CallsTo EE 102 [i64 n] (· = sv (Lib.itoa n)) := by
 intro w A vs hI hA
 obtain ⟨v, rfl, hv⟩ := one_arg hA
 cases hv with
 |d _ _ hd =>
  have := intInv hd
  subst this
  unfold Invokes
  rw [show Sem.run EE.P (callFunc 102 #[Value.int .i64 n]) w = _ from ent26 _ w]
  refine Calls.mono (show Calls Tryz.prog 102 _ _ _ from Any.strconv_Itoa Tryz.laysItoa n h0 h1 w hI) ?_
  rintro e w' ⟨rfl, k, os, rfl⟩
  exact ⟨_, rfl, _, rfl, below_grow w k os, strRel _⟩
theorem row1 {α : Type} {w : World} {ok : Nat → Prop} {xs : List α} {d : α → D} {v : Value} (h : RepD w ok (.sl (xs.map fun x => [d x])) v) :
  (xs = [] ∧ ∃ a cap, v = .slice a 0 cap) ∨ ∃ (b off cap : Nat) (us : Nat → Value), v = .slice (some ⟨b, off, none⟩) xs.length cap ∧ ok b ∧ xs.length ≤ cap ∧ ∀ (j : Nat) (x : α), xs[j]? = some x → w.cell? ⟨b, off + j, none⟩ = some (us j) ∧ RepD w ok (d x) (us j) := by
 generalize he : xs.map (fun x => [d x]) = els at h
 cases h with
 |sl0 a cap =>
  left
  cases xs with
  |nil => exact ⟨rfl, a, cap, rfl⟩
  |cons x xs => simp at he
 |sl _ sz b off cap us hok hlc hc hr =>
  subst he
  right
  cases xs with
  |nil => exact ⟨b, off, cap, us, rfl, hok, by simp, by simp⟩
  |cons x0 xs =>
   have hsz : sz = 1 := by
    have := (hc 0 [d x0] rfl).1
    simpa using this.symm
   subst hsz
   refine ⟨b, off, cap, us, by simp, hok, by simpa using hlc, fun j x hj => ?_⟩
   have hj2 : ((x0 :: xs).map fun x => [d x])[j]? = some [d x] := by rw [List.getElem?_map, hj]; rfl
   have h1 := (hc j _ hj2).2 0 (d x) rfl
   have h2 := hr j _ hj2 0 (d x) rfl
   simp only [Nat.mul_one, Nat.add_zero] at h1 h2
   exact ⟨h1, h2⟩
theorem rowLt {w : World} {b off : Nat} {v : Value} (h : w.cell? ⟨b, off, none⟩ = some v) : b < w.heap.size := by
 rcases Nat.lt_or_ge b w.heap.size with h1 | h1
 ·exact h1
 ·rw [World.cell?, Array.getElem?_eq_none h1] at h; cases h
def gS (s : List UInt8) : List D := [.str s]
theorem join_fin {w : World} {A : Nat → Prop} {vs : Array Value} {l : List UInt8} (hC : Calls Tryz.prog 139 vs w fun e w' => e = .returned (.string ⟨l.toArray⟩) ∧ RowKit.Below w.heap.size w w') :
  Calls Tryz.prog 139 vs w fun e w'' => ∃ v, e = .returned v ∧ ∃ r, r = sv l ∧ RowKit.Below w.heap.size w w'' ∧ mK w w'' A r v := by
 refine Calls.mono hC ?_
 rintro e w' ⟨rfl, hb⟩
 exact ⟨_, rfl, _, rfl, hb, strRel l⟩
theorem Join_ok (xs : List (List UInt8)) (sep : List UInt8) (hN : xs.length ≤ 1048576) (hlen : (Lib.join xs sep).length ≤ 140737488355328) : CallsTo EE 139 [sl (xs.map gS), sv sep] (· = sv (Lib.join xs sep)) := by
 intro w A vs hI hA
 obtain ⟨v, u, rfl, hv, hu⟩ := two_args hA
 cases hu with
 |d _ _ hd2 =>
  have := strInv hd2
  subst this
  cases hv with
  |d _ _ hd =>
   unfold Invokes
   rw [show Sem.run EE.P (callFunc 139 #[v, Value.string ⟨sep.toArray⟩]) w = _ from ent60 _ w]
   have emp : ∀ (a : Option Addr) (c : Nat), Calls Tryz.prog 139 #[.slice a 0 c, .string ⟨sep.toArray⟩] w fun e w'' => ∃ v, e = .returned v ∧ ∃ r, r = sv (Lib.join [] sep) ∧ RowKit.Below w.heap.size w w'' ∧ mK w w'' A r v := by
    intro a c
    refine Calls.mono (show Calls Tryz.prog 139 _ _ _ from Any.strings_Join_none Tryz.laysJoin Tryz.extraJoin a c ⟨sep.toArray⟩ w) ?_
    rintro e w' ⟨rfl, rfl⟩
    exact ⟨_, rfl, _, rfl, RowKit.Below.refl _ _, strRel []⟩
   rcases row1 (d := D.str) (xs := xs) hd with ⟨rfl, a, cap, rfl⟩ | ⟨b, off, cap, us, rfl, hok, hcap, hc⟩
   ·exact emp a cap
   ·have h1 : xs.length = (xs.map fun s => (⟨s.toArray⟩ : ByteArray)).length := by simp
    have h2 : (xs.map fun s => (⟨s.toArray⟩ : ByteArray)).map (·.data.toList) = xs := by
     rw [List.map_map]
     conv => rhs; rw [← List.map_id xs]
     exact List.map_congr_left fun s _ => by simp
    have h3 : Lib.join ((xs.map fun s => (⟨s.toArray⟩ : ByteArray)).map (·.data.toList)) (⟨sep.toArray⟩ : ByteArray).data.toList = Lib.join xs sep := by rw [h2]
    have hcells : ∀ (j : Nat) (x : ByteArray), (xs.map fun s => (⟨s.toArray⟩ : ByteArray))[j]? = some x → w.cell? ⟨b, off + j, none⟩ = some (.string x) := by
     intro j x hj
     rw [List.getElem?_map, Option.map_eq_some_iff] at hj
     obtain ⟨s, hs, rfl⟩ := hj
     obtain ⟨g1, g2⟩ := hc j s hs
     rw [g1, strInv g2]
    have hC := Any.strings_Join Tryz.laysJoin Tryz.extraJoin b off cap (xs.map fun s => (⟨s.toArray⟩ : ByteArray)) ⟨sep.toArray⟩ w hcells hok.1 (by rw [← h1]; omega) (by rw [← h1]; exact hcap) (by rw [h3]; exact hlen)
    rw [h3, ← h1] at hC
    exact join_fin hC
end Ai
end
section
namespace Go.Proofs
open Go.Shelf
def Tryz.laysClone_ren : Go.Shelf.Ren := ⟨fun | 15 => 50 | n => n, fun | 22 => 25 | 3 => 3 | 4 => 4 | n => n, fun | n => n⟩
theorem Tryz.laysClone : Go.Proofs.Lays2.n15 Tryz.prog Tryz.laysClone_ren := {
 mixed := by kernel_rfl
 f15 := Tryz.func50.trans (congrArg some (by kernel_rfl))
 t3 := Tryz.underlying3
 a3 := Tryz.isAgg3
 z3 := Tryz.sizeOf3
 v3 := Tryz.zeroValue3
 t4 := Tryz.underlying4
 a4 := Tryz.isAgg4
 z4 := Tryz.sizeOf4
 v4 := Tryz.zeroValue4
 t22 := Tryz.underlying25
 a22 := Tryz.isAgg25
 z22 := Tryz.sizeOf25
 v22 := Tryz.zeroValue25
 i3 := by kernel_rfl }
end Go.Proofs
end
section
set_option maxRecDepth 100000
namespace Ai
open Go Go.Proofs Go.Shelf
theorem uq_of_owns {w w' : World} {A : Nat → Prop} {e : TypeId} {v : Value} {xs : List Int} (h : w'.ownsRow w.heap.size e 1 v xs.length (xs.map (Value.int .i64))) : mK w w' A (.uq e 1 (xs.map encInt)) v := by
 obtain ⟨h1, h2⟩ := h
 rcases h2 with ⟨rfl, h0⟩ | ⟨g, cap, cur, rfl, hg, hcur, hn, hm, hsz, ht⟩
 ·left
  have : xs = [] := List.eq_nil_of_length_eq_zero h0
  subst this
  exact ⟨rfl, rfl⟩
 ·right
  refine ⟨g, cap, cur, by simp, hg, hcur, by simpa using hn, hm, hsz, fun j c hj => ?_⟩
  rw [List.getElem?_map, Option.map_eq_some_iff] at hj
  obtain ⟨x, hx, rfl⟩ := hj
  refine ⟨rfl, fun i d hi => ?_⟩
  match i, hi with
  | 0, hi =>
   simp only [encInt, List.getElem?_cons_zero, Option.some.injEq] at hi
   subst hi
   have hjl : j < xs.length := (List.getElem?_eq_some_iff.1 hx).1
   refine ⟨.int .i64 x, ?_, .int _ _⟩
   have h3 : (cur.toList.take (xs.length * 1))[j]? = some (Value.int .i64 x) := by rw [ht, List.getElem?_map, hx]; rfl
   rw [List.getElem?_take_of_lt (by omega)] at h3
   simpa using h3
  |i + 1, hi => simp [encInt] at hi
theorem eK {w : World} {A : Nat → Prop} {vs : Array Value} {xs : List Int} (hC : Calls Tryz.prog 50 vs w fun e w' => ∃ v', e = .returned v' ∧ w'.ownsRow w.heap.size 3 1 v' xs.length (xs.map (Value.int .i64)) ∧ v' ≠ .slice none 0 0 ∧ RowKit.Below w.heap.size w w') :
  Calls Tryz.prog 50 vs w fun e w'' => ∃ v, e = .returned v ∧ ∃ r, r = .uq 3 1 (xs.map encInt) ∧ RowKit.Below w.heap.size w w'' ∧ mK w w'' A r v := by
 refine Calls.mono hC ?_
 rintro e w' ⟨v, rfl, ho, _, hb⟩
 exact ⟨_, rfl, _, rfl, hb, uq_of_owns ho⟩
theorem Clone_ok (xs : List Int) (hx : xs.length ≤ 1048576) : CallsTo EE 50 [sl (xs.map encInt)] (· = .uq 3 1 (xs.map encInt)) := by
 intro w A vs hI hA
 obtain ⟨v, rfl, hv⟩ := one_arg hA
 cases hv with
 |d _ _ hd =>
  unfold Invokes
  rw [show Sem.run EE.P (callFunc 50 #[v]) w = _ from ent50 _ w]
  rcases row1 (d := D.int .i64) (xs := xs) hd with ⟨rfl, a, cap, rfl⟩ | ⟨b, off, cap, us, rfl, hok, hcap, hc⟩
  ·cases a with
   |none =>
    have hC := Any.slices_Clone_int_nil Tryz.laysClone 0 cap w
    refine Calls.mono (show Calls Tryz.prog 50 _ _ _ from hC) ?_
    rintro e w' ⟨rfl, rfl⟩
    exact ⟨_, rfl, _, rfl, RowKit.Below.refl _ _, .inl ⟨rfl, rfl⟩⟩
   |some ad =>
    have hC := Any.slices_Clone_int_zero Tryz.laysClone ad cap w
    exact eK (xs := []) hC
  ·have hcells : ∀ j, j < xs.length → w.cell? ⟨b, off + j, none⟩ = some (.int .i64 (xs.getD j 0)) := by
    intro j hj
    obtain ⟨g1, g2⟩ := hc j xs[j] (List.getElem?_eq_getElem hj)
    rw [g1, intInv g2]
    simp [List.getD_eq_getElem?_getD, List.getElem?_eq_getElem hj]
   have hC := Any.slices_Clone_int Tryz.laysClone b off xs.length cap xs w (Nat.le_refl _) (by omega) hcells
   rw [List.take_of_length_le (Nat.le_refl _)] at hC
   exact eK hC
end Ai
end
section
set_option maxRecDepth 100000
namespace Ai
open Go Go.Proofs Go.Shelf Go.Sort Go.RowKit
def sorted (zs : List Int) : List Int := zs.mergeSort fun x y => decide (x ≤ y)
end Ai
end
section
set_option maxRecDepth 100000
namespace Ai
open Go Go.Proofs
def PctL.goodI (s : PctL) : Prop := s.ranks.length = 5 ∧ (Lib.compact (sorted s.ranks)).length = 5 ∧ Rise (Lib.compact (sorted s.ranks)) 0 4 ∧ s.changes.length ≤ 4 ∧ Rise s.changes 0 199
end Ai
end
section
set_option maxRecDepth 100000
namespace Ai
open Go Go.Proofs
theorem indexOp_ok (xs : List OpL) (hx : xs.length ≤ 1048576) (g : FuncId) (c1 c2 : List D) (P : OpL → Prop) (hc : ∀ x ∈ xs, CallsTo EE g ([agg (encOp x)] ++ [.fp c1, .fp c2]) (· = bp (P x))) :
  CallsTo EE 122 [sl (xs.map encOp), .fn g [.fp c1, .fp c2]] (fun r => ∃ n : Int, r = i64 n ∧ (0 ≤ n ↔ ∃ x ∈ xs, P x)) := by
 refine callsTo_of_AW (fn := Tryz.f122) Tryz.func122 rfl (by kernel_rfl) rfl ?_
 conv => whnf
 refine yU (fun k : Nat => [(0, sl (xs.map encOp)), (1, .fn g [.fp c1, .fp c2]), (6, sl (xs.map encOp)), (7, i64 (xs.map encOp).length), (8, i64 k)]) (fun k => []) (fun k => xs.length - k) (fun k => k ≤ xs.length ∧ ∀ x ∈ xs.take k, ¬ P x) 0 .refl ⟨rfl, rfl, rfl, rfl, rfl, trivial⟩ trivial ⟨Nat.zero_le _, jU⟩ ?_
 rintro k τ H ⟨hk, ih⟩
 conv => whnf
 refine kbi (fun h => ?_) (fun h => ?_)
 ·have hlt := xY h
  conv => whnf
  refine ⟨encOp xs[k], yC encOp hlt rfl, ?_⟩
  conv => whnf
  refine ocase (hc _ (List.getElem_mem hlt)) (fun h1 => ?_) (fun h1 => ?_)
  ·conv => whnf
   exact ⟨_, rfl, fun _ => ⟨_, List.getElem_mem hlt, h1⟩, fun _ => by omega⟩
  ·conv => whnf
   exact ⟨k + 1, ⟨by omega, qF ih hlt h1⟩, by show xs.length - (k + 1) < xs.length - k; omega, ⟨rfl, rfl, rfl, rfl, next_i64 hlt (by omega), trivial⟩, trivial⟩
 ·have hge : xs.length ≤ k := by simpa using h
  have hall := kE ih hge
  conv => whnf
  exact ⟨_, rfl, fun h => absurd h (by decide), fun ⟨x, hx, hp⟩ => absurd hp (hall x hx)⟩
theorem cL (xs : List OpL) (hx : xs.length ≤ 1048576) (g : FuncId) (c1 c2 : List D) (P : OpL → Prop) (hc : ∀ x ∈ xs, CallsTo EE g ([agg (encOp x)] ++ [.fp c1, .fp c2]) (· = bp (P x))) :
  CallsTo EE 77 [sl (xs.map encOp), .fn g [.fp c1, .fp c2]] (· = bp (∃ x ∈ xs, P x)) := by
 refine callsTo_of_AW (fn := Tryz.f77) Tryz.func77 rfl (by kernel_rfl) rfl ?_
 conv => whnf
 refine ⟨_, indexOp_ok xs hx g c1 c2 P hc, ?_⟩
 rintro r ⟨n, rfl, hn⟩
 conv => whnf
 refine kbi (fun h => ?_) (fun h => ?_)
 ·conv => whnf
  exact bpt (hn.1 (by simpa using h))
 ·conv => whnf
  exact bpf fun hm => h (by simpa using hn.2 hm)
theorem oC (p : ProgL) (hp : p.headS) (r : List OpL) (o : OpL) : CallsTo EE 78 ([agg (encOp o)] ++ [.fp (encProg p), .fp (zW r)]) (· = bp (¬ o.goodI p r.length)) := by
 refine callsTo_of_AW (fn := Tryz.f78) Tryz.func78 rfl (by kernel_rfl) rfl ?_
 conv => whnf
 have hop : CallsTo EE 79 [agg (encProg p), agg (encOp o), i64 (r.map encOp).length] (· = bp (o.goodI p r.length)) := by
  rw [List.length_map]
  exact isGood_ok p hp _ o
 refine ocase hop (fun h => ?_) (fun h => ?_)
 ·conv => whnf
  exact bpf fun hm => hm h
 ·conv => whnf
  exact bpt h
def ProgL.goodI (p : ProgL) : Prop := p.headS ∧ ∀ r ∈ p.rs, r.length ≤ 24 ∧ ∀ o ∈ r, o.goodI p r.length
theorem y8 (p : ProgL) (hs : p.rs.length ≤ 1048576 ∧ ∀ x ∈ p.rs, x.length ≤ 1048576) : CallsTo EE 43 [agg (encProg p)] (· = bp p.goodI) := by
 refine callsTo_of_AW (fn := Tryz.f43) Tryz.func43 rfl (by kernel_rfl) rfl ?_
 conv => whnf
 refine ocase (in_ok _ _ _) (fun h1 => ?_) (fun h1 => ?_)
 rotate_left
 ·conv => whnf
  exact bpf fun hm => h1 hm.1.1
 conv => whnf
 refine ocase (in_ok _ _ _) (fun h2 => ?_) (fun h2 => ?_)
 rotate_left
 ·conv => whnf
  exact bpf fun hm => h2 hm.1.2.1
 conv => whnf
 refine ocase (in_ok _ _ _) (fun h3 => ?_) (fun h3 => ?_)
 rotate_left
 ·conv => whnf
  exact bpf fun hm => h3 hm.1.2.2.1
 conv => whnf
 refine ocase (in_ok _ _ _) (fun h4 => ?_) (fun h4 => ?_)
 rotate_left
 ·conv => whnf
  exact bpf fun hm => h4 (by simpa using hm.1.2.2.2)
 have hh : p.headS := ⟨h1, h2, h3, by simpa using h4⟩
 conv => whnf
 refine yU (fun k : Nat => [(1, .ptr 1 0), (29, sl (p.rs.map zW)), (30, i64 (p.rs.map zW).length), (31, i64 k)]) (fun k => [(1, .vs 31 ((encProg p).map .d))]) (fun k => p.rs.length - k) (fun k => k ≤ p.rs.length ∧ ∀ r ∈ p.rs.take k, r.length ≤ 24 ∧ ∀ o ∈ r, o.goodI p r.length) 0 .refl ⟨rfl, rfl, rfl, rfl, trivial⟩ ⟨rfl, trivial⟩ ⟨Nat.zero_le _, jU⟩ ?_
 rintro k τ H ⟨hk, ih⟩
 conv => whnf
 refine kbi (fun h => ?_) (fun h => ?_)
 ·have hlt := xY h
  conv => whnf
  refine ⟨zW p.rs[k], yC zW hlt rfl, ?_⟩
  conv => whnf
  have hrl := hs.2 _ (List.getElem_mem hlt)
  refine kbi (fun h5 => ?_) (fun h5 => ?_)
  ·conv => whnf
   refine bpf fun hm => ?_
   have := (hm.2 _ (List.getElem_mem hlt)).1
   simp at h5
   omega
  ·conv => whnf
   have hcf := cL p.rs[k] hrl 78 (encProg p) (zW p.rs[k]) (fun o => ¬ o.goodI p p.rs[k].length) (fun o _ => oC p hh p.rs[k] o)
   refine .inl (fcase hcf (fun h6 => ?_) (fun h6 => ?_))
   ·conv => whnf
    refine bpf fun hm => ?_
    obtain ⟨o, ho, hb⟩ := h6
    exact hb ((hm.2 _ (List.getElem_mem hlt)).2 o ho)
   ·conv => whnf
    simp at h5
    refine ⟨k + 1, ⟨by omega, qF ih hlt ⟨by omega, fun o ho => ?_⟩⟩, by show p.rs.length - (k + 1) < p.rs.length - k; omega, ⟨rfl, rfl, rfl, next_i64 hlt (by omega), trivial⟩, ⟨rfl, trivial⟩⟩
    exact Classical.byContradiction fun hb => h6 ⟨o, ho, hb⟩
 ·have hge : p.rs.length ≤ k := by simpa using h
  conv => whnf
  exact bpt ⟨hh, kE ih hge⟩
end Ai
end
section
set_option maxRecDepth 100000
namespace Ai
open Go Go.Proofs
theorem op_same (p : ProgL) (hp : p.headS) (n : Nat) (hn : n ≤ 24) (o : OpL) : o.goodS p n ↔ o.goodI p n := by
 obtain ⟨a1, a2, a3, a4⟩ := hp
 unfold InR at a1 a2 a3 a4
 have hc : (0 < dR o.code ↔ (bR o.code ∨ o.code = 16)) ∧ (1 < dR o.code ↔ o.code = 16) := by
  unfold dR bR
  split
  ·omega
  ·split <;> omega
 unfold OpL.goodS OpL.goodI OpL.plainS OpL.fitsI OpL.atS OpL.atI InR
 rw [hc.1, hc.2]
 unfold bR
 constructor
 ·rintro ⟨⟨b1, b2, b3, b4, b5, b6⟩, c1, c2, c3, c4, c5, c6⟩
  refine ⟨⟨b1, ?_, b6, b4⟩, ?_, ?_, ?_, ?_, ?_, ?_⟩ <;> omega
 ·rintro ⟨⟨b1, b2, b3, b4⟩, c1, c2, c3, c4, c5, c6⟩
  refine ⟨⟨b1, ?_, ?_, b4, ?_, b3⟩, ?_, ?_, ?_, ?_, ?_, ?_⟩ <;> omega
theorem aF (p : ProgL) : p.goodS ↔ p.goodI := by
 constructor
 ·rintro ⟨h1, h2⟩
  exact ⟨h1, fun r hr => ⟨(h2 r hr).2, fun o ho => (op_same p h1 _ (h2 r hr).2 o).1 ((h2 r hr).1 o ho)⟩⟩
 ·rintro ⟨h1, h2⟩
  exact ⟨h1, fun r hr => ⟨fun o ho => (op_same p h1 _ (h2 r hr).1 o).2 ((h2 r hr).2 o ho), (h2 r hr).1⟩⟩
theorem size_le {α : Type} (f : α → Nat) (xs : List α) (n : Nat) (h : dL f xs ≤ n) : xs.length ≤ n ∧ ∀ x ∈ xs, f x ≤ n := by
 unfold dL at h
 refine ⟨by omega, fun x hx => ?_⟩
 have : f x ≤ (xs.map f).sum := by
  clear h
  induction xs with
  |nil => cases hx
  |cons y ys ih =>
   simp only [List.map_cons, List.sum_cons]
   rcases List.mem_cons.1 hx with h1 | h1
   ·subst h1; omega
   ·have := ih h1; omega
 omega
end Ai
end
section
set_option maxRecDepth 100000
namespace Ai
open Go Go.Proofs Go.Deep
def Fits (w : World) (ds : List D) (cs : List Value) : Prop := ds.length = cs.length ∧ ∀ (i : Nat) (d : D) (u : Value), ds[i]? = some d → cs[i]? = some u → RepD w (fun b => b < w.heap.size ∧ True) d u
section
variable {H : Type} {enc' : TypeId × Value → H} {w : World} {sp : Nat → Bool} {held : Bool}
theorem list_of {α : Type} {p : Nat → α → Prop} : ∀ n, (∀ i, i < n → ∃ a, p i a) → ∃ xs : List α, xs.length = n ∧ ∀ (i : Nat) (a : α), xs[i]? = some a → p i a
 | 0, _ => ⟨[], rfl, by simp⟩
 |n + 1, h => by
  obtain ⟨xs, hl, hx⟩ := list_of n fun i hi => h i (by omega)
  obtain ⟨a, ha⟩ := h n (by omega)
  refine ⟨xs ++ [a], by simp [hl], fun i b hb => ?_⟩
  rcases Nat.lt_or_ge i n with h1 | h1
  ·rw [List.getElem?_append_left (by omega)] at hb
   exact hx i b hb
  ·rw [List.getElem?_append_right (by omega)] at hb
   have : i = n := by
    have := (List.getElem?_eq_some_iff.1 hb).1
    simp at this
    omega
   subst this
   rw [hl, Nat.sub_self] at hb
   simp at hb
   subst hb
   exact ha
theorem spot_none {a : Addr} {v : Value} (h : w.cell? a = some v) : a = ⟨a.block, a.off, none⟩ := by
 obtain ⟨b, off, s⟩ := a
 cases s with
 |none => rfl
 |some s =>
  simp only [World.cell?] at h
  split at h <;> simp at h
theorem s8 (b off k : Nat) : (⟨b, off, none⟩ : Addr).add k = ⟨b, off + k, none⟩ := by
 unfold Addr.add
 split
 ·rename_i h; subst h; rfl
 ·rfl
theorem q9 {α : Type} {t e : TypeId} (ht : Tryz.prog.underlying t = some (.slice e)) (sz : Nat) (hsz : Tryz.prog.cellsOf e = sz) (h0 : 0 < sz) (enc : α → List D) (wf : α → Prop)
  (hel : ∀ n cs x, DataW.trod enc' Tryz.prog w 0 sp held n e cs = some x → ∃ a, wf a ∧ Fits w (enc a) cs) {fuel : Nat} {cs : List Value} {x : DataW H × List MemPlace}
  (h : DataW.trod enc' Tryz.prog w 0 sp held fuel t cs = some x) : ∃ xs : List α, (∀ a ∈ xs, wf a) ∧ xs.length ≤ 9223372036854775807 ∧ Fits w [.sl (xs.map enc)] cs := by
 rcases open_slice ht h with ⟨rfl, _⟩ | ⟨a, len, cap, m, n, Dd, Pl, rfl, hb, hl, hm, hmm, hx, hall⟩
 ·refine ⟨[], by simp, by simp, rfl, fun i d u hd hu => ?_⟩
  match i, hd, hu with
  | 0, hd, hu => simp at hd hu; subst hd; subst hu; exact .sl0 _ _
  |i + 1, hd, hu => simp at hd
 ·have hlm : len ≤ m := by rw [hmm]; split <;> omega
  obtain ⟨xs, hxl, hxs⟩ := list_of (α := α) (p := fun i y => wf y ∧ ∃ cs', w.cells? 0 (a.add (i * sz)) sz = some cs' ∧ Fits w (enc y) cs') len fun i hi => by
   obtain ⟨cs', h1, h2⟩ := hall i (by omega)
   obtain ⟨y, hy1, hy2⟩ := hel _ _ _ h2
   rw [hsz] at h1
   exact ⟨y, hy1, cs', h1, hy2⟩
  have hmx : maxLen = 9223372036854775807 := rfl
  refine ⟨xs, fun y hy => ?_, by omega, rfl, fun i d u hd hu => ?_⟩
  ·obtain ⟨i, hi⟩ := List.getElem?_of_mem hy
   exact (hxs i y hi).1
  match i, hd, hu with
  |i + 1, hd, hu => simp at hd
  | 0, hd, hu =>
   simp at hd hu
   subst hd; subst hu
   cases xs with
   |nil =>
    simp at hxl
    subst hxl
    exact .sl0 _ _
   |cons y0 ys =>
    have hA : a = ⟨a.block, a.off, none⟩ := by
     obtain ⟨_, cs', hc, hf1, hf2⟩ := hxs 0 y0 rfl
     obtain ⟨_, hcl, hcc⟩ := World.cells?_some hc
     have h9 := hcc 0 h0
     have h10 : cs'[0]? = some cs'[0] := List.getElem?_eq_getElem (by omega)
     rw [h10] at h9
     have e : (a.add (0 * sz)).add 0 = a := by simp [Addr.add]
     rw [e] at h9
     exact spot_none h9
    obtain ⟨b, off, spt⟩ := a
    have hsp : spt = none := by simpa using hA
    subst hsp
    clear hA
    have cellAt : ∀ (j : Nat) (y : α), (y0 :: ys)[j]? = some y → (enc y).length = sz ∧ ∀ (q : Nat) (d : D), (enc y)[q]? = some d → ∃ u, w.cell? ⟨b, off + (j * sz + q), none⟩ = some u ∧ RepD w (fun b => b < w.heap.size ∧ True) d u := by
     intro j y hj
     obtain ⟨_, cs', hc, hf1, hf2⟩ := hxs j y hj
     obtain ⟨_, hcl, hcc⟩ := World.cells?_some hc
     refine ⟨by omega, fun q d hq => ?_⟩
     have hql : q < sz := by have := (List.getElem?_eq_some_iff.1 hq).1; omega
     have hq2 : cs'[q]? = some cs'[q] := List.getElem?_eq_getElem (by omega)
     have h9 := hcc q hql
     rw [s8, s8, hq2, Nat.add_assoc] at h9
     exact ⟨cs'[q], h9, hf2 q d _ hq hq2⟩
    have hlt : b < w.heap.size := by
     obtain ⟨g1, g2⟩ := cellAt 0 y0 rfl
     have h00 : 0 < (enc y0).length := by omega
     obtain ⟨u, hu, _⟩ := g2 0 _ (List.getElem?_eq_getElem h00)
     exact rowLt hu
    have := RepD.sl (w := w) (ok := fun b => b < w.heap.size ∧ True) ((y0 :: ys).map enc) sz b off cap (fun q => (w.cell? ⟨b, off + q, none⟩).getD undef) ⟨hlt, trivial⟩ (by rw [List.length_map, hxl]; exact hl)
     (fun j c hj => by
      rw [List.getElem?_map, Option.map_eq_some_iff] at hj
      obtain ⟨y, hy, rfl⟩ := hj
      obtain ⟨g1, g2⟩ := cellAt j y hy
      refine ⟨g1, fun q d hq => ?_⟩
      obtain ⟨u, hu, _⟩ := g2 q d hq
      rw [hu]; rfl)
     (fun j c hj q d hq => by
      rw [List.getElem?_map, Option.map_eq_some_iff] at hj
      obtain ⟨y, hy, rfl⟩ := hj
      obtain ⟨g1, g2⟩ := cellAt j y hy
      obtain ⟨u, hu, hr⟩ := g2 q d hq
      rw [hu]; exact hr)
    rw [List.length_map, hxl] at this
    exact this
theorem rd_int {n : Nat} {cs : List Value} {x : DataW H × List MemPlace} (h : DataW.trod enc' Tryz.prog w 0 sp held n 3 cs = some x) : ∃ k : Int, Fits w [di k] cs := by
 obtain ⟨k, rfl, _, _⟩ := DataW.trod_int Tryz.underlying3 h
 refine ⟨k, rfl, fun i d u hd hu => ?_⟩
 match i, hd, hu with
 | 0, hd, hu => simp at hd hu; subst hd; subst hu; exact .int _ _
 |i + 1, hd, hu => simp at hd
theorem rd_str {n : Nat} {cs : List Value} {x : DataW H × List MemPlace} (h : DataW.trod enc' Tryz.prog w 0 sp held n 9 cs = some x) : ∃ s : List UInt8, s.length ≤ 9223372036854775807 ∧ Fits w [.str s] cs := by
 obtain ⟨s, rfl, _, hs⟩ := DataW.trod_string Tryz.underlying9 h
 refine ⟨s.data.toList, ?_, rfl, fun i d u hd hu => ?_⟩
 ·have : maxLen = 9223372036854775807 := rfl
  have h2 : s.data.toList.length = s.size := rfl
  omega
 match i, hd, hu with
 | 0, hd, hu => simp at hd hu; subst hd; subst hu; exact .str _
 |i + 1, hd, hu => simp at hd
theorem rd_flt {n : Nat} {cs : List Value} {x : DataW H × List MemPlace} (h : DataW.trod enc' Tryz.prog w 0 sp held n 105 cs = some x) : ∃ v : Nat, v < 18446744073709551616 ∧ Fits w [.flt v] cs := by
 cases n with
 |zero => simp [DataW.trod] at h
 |succ n =>
  unfold DataW.trod at h
  rw [Tryz.underlying105] at h
  split at h <;> simp_all
  rename_i kk b e2
  obtain ⟨⟨e1, hb⟩, _⟩ := h
  subst e2
  have hb0 : (Lit.float FloatKind.f64 b).wf = true := hb
  refine ⟨canon b, ?_, rfl, fun i d u hd hu => ?_⟩
  ·have hb2 : b < 18446744073709551616 := by simpa [Lit.wf] using hb0
   unfold canon nanC
   cases zO b <;> simp <;> omega
  match i, hd, hu with
  | 0, hd, hu => simp at hd hu; subst hd; subst hu; exact .flt _
  |i + 1, hd, hu => simp at hd
theorem fits_app {ds ds2 : List D} {cs : List Value} {k : Nat} (h1 : Fits w ds (cs.take k)) (hk : ds.length = k) (h2 : Fits w ds2 (cs.drop k)) (hc : k ≤ cs.length) : Fits w (ds ++ ds2) cs := by
 refine ⟨by have := h2.1; simp at this ⊢; omega, fun i d u hd hu => ?_⟩
 rcases Nat.lt_or_ge i k with h | h
 ·rw [List.getElem?_append_left (by omega)] at hd
  exact h1.2 i d u hd (by rw [List.getElem?_take_of_lt h]; exact hu)
 ·rw [List.getElem?_append_right (by omega)] at hd
  exact h2.2 (i - k) d u (by rw [hk] at hd; exact hd) (by rw [List.getElem?_drop]; rw [show k + (i - k) = i by omega]; exact hu)
theorem uB {d : D} {ds : List D} {cs : List Value} {k : Nat} (h1 : Fits w [d] ((cs.drop k).take 1)) (h2 : Fits w ds (cs.drop (k + 1))) : Fits w (d :: ds) (cs.drop k) := by
 have hl : 1 ≤ (cs.drop k).length := by
  have := h1.1
  simp at this ⊢
  omega
 refine fits_app (ds := [d]) (k := 1) h1 rfl ?_ hl
 rw [List.drop_drop]
 exact h2
theorem m8 {cs : List Value} {k : Nat} (h : cs.length = k) : Fits w [] (cs.drop k) := ⟨by simp [h], by simp⟩
def OpL.fl (o : OpL) : Prop := o.v < 18446744073709551616
theorem rd_op {n : Nat} {cs : List Value} {x : DataW H × List MemPlace} (h : DataW.trod enc' Tryz.prog w 0 sp held n 151 cs = some x) : ∃ o : OpL, o.fl ∧ Fits w (encOp o) cs := by
 obtain ⟨xs, m, _, _, hcl, hxl, hf⟩ := DataW.trod_struct Tryz.underlying151 h
 have c3 : Tryz.prog.cellsOf 3 = 1 := by kernel_rfl
 have c105 : Tryz.prog.cellsOf 105 = 1 := by kernel_rfl
 have c151 : Tryz.prog.cellsOf 151 = 4 := by kernel_rfl
 have hxl4 : xs.length = 4 := hxl
 have g0 : DataW.trod enc' Tryz.prog w 0 sp held m 3 ((cs.drop 0).take (Tryz.prog.cellsOf 3)) = xs[0]? := hf 0 _ rfl
 have g1 : DataW.trod enc' Tryz.prog w 0 sp held m 3 ((cs.drop 1).take (Tryz.prog.cellsOf 3)) = xs[1]? := hf 1 _ rfl
 have g2 : DataW.trod enc' Tryz.prog w 0 sp held m 3 ((cs.drop 2).take (Tryz.prog.cellsOf 3)) = xs[2]? := hf 2 _ rfl
 have g3 : DataW.trod enc' Tryz.prog w 0 sp held m 105 ((cs.drop 3).take (Tryz.prog.cellsOf 105)) = xs[3]? := hf 3 _ rfl
 simp only [c3, c105] at g0 g1 g2 g3
 rw [List.getElem?_eq_getElem (by omega)] at g0 g1 g2 g3
 obtain ⟨k0, f0⟩ := rd_int g0
 obtain ⟨k1, f1⟩ := rd_int g1
 obtain ⟨k2, f2⟩ := rd_int g2
 obtain ⟨v, hv, f3⟩ := rd_flt g3
 exact ⟨⟨k0, k1, k2, v⟩, hv, uB (k := 0) f0 (uB (k := 1) f1 (uB (k := 2) f2 (uB (k := 3) f3 (m8 (by omega)))))⟩
theorem c3 : Tryz.prog.cellsOf 3 = 1 := by kernel_rfl
theorem rd_row {n : Nat} {cs : List Value} {x : DataW H × List MemPlace} (h : DataW.trod enc' Tryz.prog w 0 sp held n 103 cs = some x) : ∃ l : List OpL, (l.length ≤ 9223372036854775807 ∧ ∀ o ∈ l, o.fl) ∧ Fits w (zW l) cs := by
 obtain ⟨xs, hw, hl, hf⟩ := q9 (α := OpL) Tryz.underlying103 4 (by kernel_rfl) (by omega) encOp OpL.fl (fun n cs x h => rd_op h) h
 exact ⟨xs, ⟨hl, hw⟩, hf⟩
theorem rd_rows {n : Nat} {cs : List Value} {x : DataW H × List MemPlace} (h : DataW.trod enc' Tryz.prog w 0 sp held n 22 cs = some x) : ∃ l : List (List OpL), (l.length ≤ 9223372036854775807 ∧ ∀ r ∈ l, r.length ≤ 9223372036854775807 ∧ ∀ o ∈ r, o.fl) ∧ Fits w [.sl (l.map zW)] cs := by
 obtain ⟨xs, hw, hl, hf⟩ := q9 (α := List OpL) Tryz.underlying22 1 (by kernel_rfl) (by omega) zW (fun r => r.length ≤ 9223372036854775807 ∧ ∀ o ∈ r, o.fl) (fun n cs x h => rd_row h) h
 exact ⟨xs, ⟨hl, hw⟩, hf⟩
theorem rd_prog {n : Nat} {cs : List Value} {x : DataW H × List MemPlace} (h : DataW.trod enc' Tryz.prog w 0 sp held n 24 cs = some x) : ∃ p : ProgL, (p.wf ∧ p.flt) ∧ Fits w (encProg p) cs := by
 obtain ⟨xs, m, _, _, hcl, hxl, hf⟩ := DataW.trod_struct Tryz.underlying24 h
 have c22 : Tryz.prog.cellsOf 22 = 1 := by kernel_rfl
 have c24 : Tryz.prog.cellsOf 24 = 4 := by kernel_rfl
 have hxl4 : xs.length = 4 := hxl
 have g0 : DataW.trod enc' Tryz.prog w 0 sp held m 3 ((cs.drop 0).take (Tryz.prog.cellsOf 3)) = xs[0]? := hf 0 _ rfl
 have g1 : DataW.trod enc' Tryz.prog w 0 sp held m 3 ((cs.drop 1).take (Tryz.prog.cellsOf 3)) = xs[1]? := hf 1 _ rfl
 have g2 : DataW.trod enc' Tryz.prog w 0 sp held m 3 ((cs.drop 2).take (Tryz.prog.cellsOf 3)) = xs[2]? := hf 2 _ rfl
 have g3 : DataW.trod enc' Tryz.prog w 0 sp held m 22 ((cs.drop 3).take (Tryz.prog.cellsOf 22)) = xs[3]? := hf 3 _ rfl
 simp only [c3, c22] at g0 g1 g2 g3
 rw [List.getElem?_eq_getElem (by omega)] at g0 g1 g2 g3
 obtain ⟨k0, f0⟩ := rd_int g0
 obtain ⟨k1, f1⟩ := rd_int g1
 obtain ⟨k2, f2⟩ := rd_int g2
 obtain ⟨v, ⟨hv1, hv2⟩, f3⟩ := rd_rows g3
 exact ⟨⟨k0, k1, k2, v⟩, ⟨⟨hv1, fun r hr => (hv2 r hr).1⟩, fun r hr => (hv2 r hr).2⟩, uB (k := 0) f0 (uB (k := 1) f1 (uB (k := 2) f2 (uB (k := 3) f3 (m8 (by omega)))))⟩
end
end Ai
end
section
set_option maxRecDepth 100000
namespace Ai
open Go Go.Proofs
structure Th where
 rt : Int
 pc : Int
 st : Int
 cond : Int
 lock : Int
 stack : List Nat
structure StL where
 ths : List Th
 cells : List Nat
 owner : List Int
 fault : Int
structure Ev where
 th : Int
 kind : Int
 obj : Int
 lock : Int
 pc : Int
def encF (x : Nat) : List D := [.flt x]
def zE (t : Th) : List D := [di t.rt, di t.pc, di t.st, di t.cond, di t.lock, .sl (t.stack.map encF)]
def gR (t : Th) : List D := [di t.rt, di t.pc, di t.st, di t.cond, di t.lock, .nil]
def stk (t : Th) : List (List D) := t.stack.map encF
def encSt (s : StL) : List D := [.sl (s.ths.map zE), .sl (s.cells.map encF), .sl (s.owner.map encInt), di s.fault]
def encEv (e : Ev) : List D := [di e.th, di e.kind, di e.obj, di e.lock, di e.pc]
def jX (s : StL) : List AV := [.uqd 123 6 5 105 1 (s.ths.map gR) (s.ths.map stk), .uq 105 1 (s.cells.map encF), .uq 3 1 (s.owner.map encInt), .d (di s.fault)]
def thRows (o : Nat) (l : List Th) : List (List AV) := ownRows o 5 (l.map gR) (l.map stk)
def thRow (o j : Nat) (t : Th) : List AV := [i64 t.rt, i64 t.pc, i64 t.st, i64 t.cond, i64 t.lock, .ref (.s o j) 0 t.stack.length]
theorem xG {o : Nat} {l : List Th} {j : Nat} (h : j < l.length) : (thRows o l)[j]? = some (thRow o j l[j]) := by
 simp only [thRows, ownRows, List.getElem?_mapIdx, List.getElem?_map, List.getElem?_eq_getElem h, Option.map_some, Option.some.injEq, List.getD_eq_getElem?_getD, Option.getD_some]
 simp [thRow, gR, stk]
theorem zR {o : Nat} {l : List Th} : (thRows o l).length = l.length := by simp [thRows, ownRows]
theorem zX {p : Key → Bool} {o j : Nat} {t : Th} (h : p (.s o j) = false) : scrPL p (thRow o j t) = thRow o j t := by
 simp [thRow, scrPL, scrP, h]
theorem zN {p : Key → Bool} {o : Nat} {l : List Th} (h : ∀ j, j < l.length → p (.s o j) = false) : (thRows o l).map (scrPL p) = thRows o l := by
 apply List.ext_getElem?
 intro j
 rw [List.getElem?_map]
 by_cases hj : j < l.length
 ·rw [xG hj]
  simp only [Option.map_some]
  rw [zX (h j hj)]
 ·rw [List.getElem?_eq_none (by rw [zR]; omega)]
  rfl
theorem qI (o k : Nat) (l : List Th) : (thRows o l).map (scrPL (isK (.n k))) = thRows o l := zN fun _ _ => rfl
theorem cW {a o j i : Nat} {t : Th} (h : i ≠ j) : renL (swp (.n a) (.s o j)) (thRow o i t) = thRow o i t := by
 have e : swp (.n a) (.s o j) (.s o i) = .s o i := by
  simp [swp, Key.beq, nbeq_ne h]
 simp [thRow, renL, ren, e]
theorem dJ {a o j : Nat} {l : List Th} (h : l.length ≤ j) : (thRows o l).map (renL (swp (.n a) (.s o j))) = thRows o l := by
 apply List.ext_getElem?
 intro i
 rw [List.getElem?_map]
 by_cases hj : i < l.length
 ·rw [xG hj]
  simp only [Option.map_some]
  rw [cW (by omega)]
 ·rw [List.getElem?_eq_none (by rw [zR]; omega)]
  rfl
theorem jV (a b o : Nat) (l : List Th) : (thRows o l).map (renL (swp (.n a) (.n b))) = thRows o l := by
 apply List.ext_getElem?
 intro i
 rw [List.getElem?_map]
 by_cases hj : i < l.length
 ·rw [xG hj]
  rfl
 ·rw [List.getElem?_eq_none (by rw [zR]; omega)]
  rfl
theorem nV (o : Nat) (l : List Th) (t : Th) : thRows o (l ++ [t]) = thRows o l ++ [thRow o l.length t] := by
 apply List.ext_getElem?
 intro i
 rcases Nat.lt_trichotomy i l.length with h | h | h
 ·rw [List.getElem?_append_left (by rw [zR]; exact h), xG h, xG (l := l ++ [t]) (by simp; omega)]
  simp [List.getElem_append_left h]
 ·subst h
  rw [List.getElem?_append_right (by rw [zR]; omega), xG (l := l ++ [t]) (by simp)]
  simp [zR]
 ·rw [List.getElem?_eq_none (by rw [zR]; simp; omega), List.getElem?_eq_none (by simp [zR]; omega)]
theorem bJ {α : Type} (xs : List α) (k : Nat) (h : k < xs.length) : xs.take (k + 1) = xs.take k ++ [xs[k]] := by
 rw [List.take_add_one, List.getElem?_eq_getElem h]; rfl
theorem w5 (l : List Th) (k a : Nat) (h : k < l.length) (n : Nat) (hn : n = l[k].stack.length) :
  ((((thRows 900 (l.take k)).take k ++ [[i64 l[k].rt, i64 l[k].pc, i64 l[k].st, i64 l[k].cond, i64 l[k].lock, AV.ref (.n a) 0 n]]).map (scrPL (isK (.n 900)))).map (renL (swp (.n a) (.s 900 k)))) = thRows 900 (l.take (k + 1)) ∨ a = 900 := by
 by_cases ha : a = 900
 ·exact .inr ha
 left
 have hl : (l.take k).length = k := by simp; omega
 rw [List.take_of_length_le (by rw [zR]; omega), List.map_append, List.map_append, qI 900 900, dJ (by omega), bJ l k h, nV, hl]
 congr 1
 have e1 : isK (.n 900) (.n a) = false := by
  show Nat.beq a 900 = false
  exact nbeq_ne ha
 have e2 : swp (.n a) (.s 900 k) (.n a) = .s 900 k := by simp [swp, zD]
 simp [scrPL, scrP, e1, renL, ren, e2, thRow, hn]
def zM (l : List Th) (j : Nat) : Option Ob := (l[j]?).map fun t => .ds 105 1 (stk t)
theorem zS (p : Key → Bool) (l : List Th) (j : Nat) : (zM l j).map (scrPO p) = zM l j := by
 unfold zM; cases l[j]? <;> rfl
theorem thFam_ren (f : Key → Key) (l : List Th) (j : Nat) : (zM l j).map (renO f) = zM l j := by
 unfold zM; cases l[j]? <;> rfl
theorem rM {l : List Th} {k j : Nat} (h : j ≠ k) : zM (l.take k) j = zM (l.take (k + 1)) j := by
 unfold zM
 rw [List.getElem?_take, List.getElem?_take]
 by_cases h1 : j < k
 ·rw [if_pos h1, if_pos (by omega)]
 ·rw [if_neg h1, if_neg (by omega)]
end Ai
end
section
set_option maxRecDepth 100000
namespace Ai
open Go Go.Proofs
theorem gD (xs : List Nat) (hx : xs.length ≤ 1048576) : CallsTo EE 174 [sl (xs.map encF)] (· = .uq 105 1 (xs.map encF)) := by
 refine callsTo_of_AW (fn := Tryz.f174) Tryz.func174 rfl (by kernel_rfl) rfl ?_
 conv => whnf
 refine ⟨fun h => ?_, ?_⟩
 ·have : xs = [] := by simpa using h
  subst this
  conv => whnf
  exact .inr ⟨105, 1, rfl⟩
 ·conv => whnf
  refine ⟨⟨by simp [encF], by simp; omega, by simp; omega⟩, ?_⟩
  conv => whnf
  exact congrArg (AV.uq 105 1) (by simp [List.take_of_length_le])
theorem CloneI_ok (xs : List Int) (hx : xs.length ≤ 1048576) : CallsTo EE 50 [sl (xs.map encInt)] (· = .uq 3 1 (xs.map encInt)) := by
 refine callsTo_of_AW (fn := Tryz.f50) Tryz.func50 rfl (by kernel_rfl) rfl ?_
 conv => whnf
 refine ⟨fun h => ?_, ?_⟩
 ·have : xs = [] := by simpa using h
  subst this
  conv => whnf
  exact .inr ⟨3, 1, rfl⟩
 ·conv => whnf
  refine ⟨⟨by simp [encInt], by simp; omega, by simp; omega⟩, ?_⟩
  conv => whnf
  exact congrArg (AV.uq 3 1) (by simp [List.take_of_length_le])
theorem CloneT_ok (xs : List Th) (hx : xs.length ≤ 1048576) : CallsTo EE 175 [sl (xs.map zE)] (· = .uq 123 6 (xs.map zE)) := by
 refine callsTo_of_AW (fn := Tryz.f175) Tryz.func175 rfl (by kernel_rfl) rfl ?_
 conv => whnf
 refine ⟨fun h => ?_, ?_⟩
 ·have : xs = [] := by simpa using h
  subst this
  conv => whnf
  exact .inr ⟨123, 6, rfl⟩
 ·conv => whnf
  refine ⟨⟨by simp [zE], by simp; omega, by simp; omega⟩, ?_⟩
  conv => whnf
  exact congrArg (AV.uq 123 6) (by simp [List.take_of_length_le])
theorem CloneE_ok (xs : List Ev) (hx : xs.length ≤ 1048576) : CallsTo EE 147 [sl (xs.map encEv)] (· = .uq 120 5 (xs.map encEv)) := by
 refine callsTo_of_AW (fn := Tryz.f147) Tryz.func147 rfl (by kernel_rfl) rfl ?_
 conv => whnf
 refine ⟨fun h => ?_, ?_⟩
 ·have : xs = [] := by simpa using h
  subst this
  conv => whnf
  exact .inr ⟨120, 5, rfl⟩
 ·conv => whnf
  refine ⟨⟨by simp [encEv], by simp; omega, by simp; omega⟩, ?_⟩
  conv => whnf
  exact congrArg (AV.uq 120 5) (by simp [List.take_of_length_le])
theorem l1Own_ok (xs : List Int) (hx : xs.length ≤ 1048576) : CallsTo EE 83 [sl (xs.map encInt)] (· = .uq 3 1 (xs.map encInt)) := by
 refine callsTo_of_AW (fn := Tryz.f83) Tryz.func83 rfl (by kernel_rfl) rfl ?_
 conv => whnf
 refine ⟨⟨by simp [encInt], by simp; omega, by simp; omega⟩, ?_⟩
 conv => whnf
 exact congrArg (AV.uq 3 1) (by simp [List.take_of_length_le])
theorem dA (r : Int) : CallsTo EE 130 [i64 r] (· = agg [di r, di 0, di 1, di (-1), di (-1), .sl []]) := by
 refine callsTo_of_AW (fn := Tryz.f130) Tryz.func130 rfl (by kernel_rfl) rfl ?_
 conv => whnf
 rfl
theorem kF (r : Int) : CallsTo EE 150 [i64 r] (· = .own [i64 r, i64 0, i64 1, i64 (-1), i64 (-1), .uq 105 1 []]) := by
 refine callsTo_of_AW (fn := Tryz.f150) Tryz.func150 rfl (by kernel_rfl) rfl ?_
 conv => whnf
 refine .inr (.inr ⟨_, _, qE 4 905, rfl, ?_, ?_, rfl⟩)
 ·intro v hv
  simp only [List.mem_cons, List.not_mem_nil, or_false] at hv
  rcases hv with rfl | rfl | rfl | rfl | rfl | rfl <;> trivial
 ·exact iP ⟨trivial, trivial, trivial, trivial, trivial, rfl, trivial⟩
end Ai
end
section
set_option maxRecDepth 100000
namespace Ai
open Go Go.Proofs
def StL.small (s : StL) : Prop := s.ths.length ≤ 1048576 ∧ (∀ t ∈ s.ths, t.stack.length ≤ 1048576) ∧ s.cells.length ≤ 1048576 ∧ s.owner.length ≤ 1048576
theorem lW (s : StL) (hs : s.small) : CallsTo EE 133 [agg (encSt s)] (· = .own (jX s)) := by
 obtain ⟨s1, s2, s3, s4⟩ := hs
 refine callsTo_of_AW (fn := Tryz.f133) Tryz.func133 rfl (by kernel_rfl) rfl ?_
 conv => whnf
 refine .inr (.inl ⟨12, [], ?_⟩)
 conv => whnf
 refine ⟨⟨by simp [encF], by simp; omega, by simp; omega⟩, ?_⟩
 conv => whnf
 refine ⟨_, l1Own_ok s.owner s4, .inr ⟨_, rfl, ?_⟩⟩
 conv => whnf
 refine ⟨by kernel_rfl, ?_⟩
 conv => whnf
 refine aloopF (fun k : Nat => [(1, .ptr 1 0), (2, .ptr 2 0), (3, .ptr 3 0), (17, sl (s.ths.map zE)), (18, i64 (s.ths.map zE).length), (19, i64 k)])
  (fun k => [(2, .vs 76 [.d .nil, .d .nil, .d .nil, i64 0]), (3, .vs 76 [.dref 900 k, .ref 6 0 (0 + (s.cells.map encF).length), .ref 12 0 (s.owner.map encInt).length, i64 s.fault]), (6, .ds 105 1 (s.cells.map encF)), (12, .ds 3 1 (s.owner.map encInt)), (900, .rs 123 6 (thRows 900 (s.ths.take k)))])
  (fun k => [(900, zM (s.ths.take k))]) (fun k => s.ths.length - k) (fun k => k ≤ s.ths.length) 0 (vC 3 900 76 123 6 0 _ (by intro n h; cases h) (by intro h; cases h) rfl rfl) ?_ ?_ ?_ (Nat.zero_le _) ?_
 ·exact ⟨rfl, rfl, rfl, rfl, rfl, rfl, trivial⟩
 ·exact ⟨rfl, rfl, rfl, rfl, rfl, trivial⟩
 ·refine ⟨fun j => ?_, trivial⟩
  simp [zM]
  rfl
 rintro k τ H hk
 conv => whnf
 refine kbi (fun h => ?_) (fun h => ?_)
 ·have hlt := xY h
  conv => whnf
  refine ⟨zE s.ths[k], yC zE hlt rfl, ?_⟩
  conv => whnf
  refine ⟨⟨by simp [encF], by simp; have := s2 _ (List.getElem_mem hlt); omega, by simp; have := s2 _ (List.getElem_mem hlt); omega⟩, ?_⟩
  conv => whnf
  refine .inr ?_
  conv => whnf
  refine ⟨⟨fun c hc => ?_, ?_, ?_⟩, ?_⟩
  ·have hc : c ∈ [[i64 s.ths[k].rt, i64 s.ths[k].pc, i64 s.ths[k].st, i64 s.ths[k].cond, i64 s.ths[k].lock, AV.ref (.n 23) 0 (0 + (List.map encF s.ths[k].stack).length)]] := hc
   simp only [List.mem_singleton] at hc
   subst hc; rfl
  ·show (k + 1) * 64 ≤ _
   omega
  ·show k + 1 ≤ _
   omega
  conv => whnf
  refine ⟨k + 1, _, lA 23 900 k, by omega, by show s.ths.length - (k + 1) < s.ths.length - k; omega, ⟨rfl, rfl, rfl, rfl, rfl, next_i64 hlt (by omega), trivial⟩, ⟨rfl, rfl, rfl, rfl, ?_, trivial⟩, ⟨fun j => ?_, trivial⟩⟩
  ·show some (Ob.rs 123 6 ((((((((thRows 900 (s.ths.take k)).map (scrPL (isK (.n 5)))).map (scrPL (isK (.n 23)))).map (scrPL (isK (.n 23)))).map (scrPL (isK (.n 31)))).take k ++ [[i64 s.ths[k].rt, i64 s.ths[k].pc, i64 s.ths[k].st, i64 s.ths[k].cond, i64 s.ths[k].lock, AV.ref (.n 23) 0 (0 + (List.map encF s.ths[k].stack).length)]]).map (scrPL (isK (.n 900)))).map (renL (swp (.n 23) (.s 900 k))))) = _
   rw [qI, qI, qI, qI]
   rw [(w5 s.ths k 23 hlt _ (by simp)).resolve_right (by omega)]
  ·have hl : (s.ths.take k).length = k := by simp; omega
   by_cases hj : j = k
   ·subst hj
    have e : swp (.n 23) (.s 900 j) (.s 900 j) = .n 23 := by simp [swp, Key.beq]
    show (St.H _ (swp (.n 23) (.s 900 j) (.s 900 j))).map _ = _
    rw [e]
    show some (Ob.ds 105 ti105.sz (List.take 0 [] ++ List.map encF s.ths[j].stack)) = _
    rw [zM, bJ s.ths j hlt, List.getElem?_append_right (by omega), hl]
    simp [stk]
   ·have e : swp (.n 23) (.s 900 k) (.s 900 j) = .s 900 j := by simp [swp, Key.beq, nbeq_ne hj]
    show (St.H _ (swp (.n 23) (.s 900 k) (.s 900 j))).map _ = _
    rw [e]
    show ((((((zM (s.ths.take k) j).map (scrPO (isK (.n 5)))).map (scrPO (isK (.n 23)))).map (scrPO (isK (.n 23)))).map (scrPO (isK (.n 31)))).map (scrPO (isK (.n 900)))).map (renO _) = _
    rw [zS, zS, zS, zS, zS, thFam_ren]
    exact rM hj
 ·have hge : s.ths.length ≤ k := by simpa using h
  have hkk : k = s.ths.length := by omega
  subst hkk
  conv => whnf
  refine .inr (.inr ⟨jX s, _, (qE 6 901).trans (qE 12 902), ?_, ?_, iP ⟨⟨?_, fun j q hq => ?_⟩, rfl, rfl, trivial, trivial⟩, rfl⟩)
  ·show some [AV.agg [.dref 900 s.ths.length, .ref 901 0 (0 + (List.map encF s.cells).length), .ref 902 0 (List.map encInt s.owner).length, i64 s.fault]] = _
   simp [ownR, ownR1, jX, jT]
   exact ⟨rfl, rfl, rfl⟩
  ·intro v hv
   simp only [jX, List.mem_cons, List.not_mem_nil, or_false] at hv
   rcases hv with rfl | rfl | rfl | rfl
   ·show (s.ths.map gR).length = (s.ths.map stk).length
    simp
   ·trivial
   ·trivial
   ·trivial
  ·show some (Ob.rs 123 6 (((thRows 900 (s.ths.take s.ths.length)).map (renL (swp (.n 6) (.n 901)))).map (renL (swp (.n 12) (.n 902))))) = some (Ob.rs 123 6 (thRows 900 s.ths))
   rw [jV, jV, List.take_length]
  ·show ((zM (s.ths.take s.ths.length) j).map (renO _)).map (renO _) = _
   rw [thFam_ren, thFam_ren, List.take_length, zM]
   rw [List.getElem?_map] at hq
   obtain ⟨t, ht, rfl⟩ := Option.map_eq_some_iff.1 hq
   rw [ht]; rfl
end Ai
end
section
set_option maxRecDepth 100000
namespace Ai
open Go Go.Proofs
def oneF : Nat := 4607182418800017408
def yO (x : Nat) (many : Int) : Option Int :=
 if (1 ≤ many ∧ many ≤ 1000) ∧ fcmp .lss x 0 = false ∧ fcmp .lss x (FloatKind.f64.nearest many) = true then
  (match floatToIntVal .f64 x .i64 with
  |some n => if fcmp .eql (FloatKind.f64.nearest n) x = true then some n else none
  |none => none)
 else none
def zA (c : Int) : Int × Int :=
 if c = 1 ∨ c = 2 ∨ c = 14 then (0, 1) else if c = 3 ∨ c = 11 ∨ c = 15 then (1, 0) else if 4 ≤ c ∧ c ≤ 9 then (2, 1) else (0, 0)
theorem sM (c : Int) : CallsTo EE 164 [i64 c] (· = .tup [i64 (zA c).1, i64 (zA c).2]) := by
 refine callsTo_of_AW (fn := Tryz.f164) Tryz.func164 rfl (by kernel_rfl) rfl ?_
 have go1 : (c = 1 ∨ c = 2 ∨ c = 14) → zA c = (0, 1) := fun h => by simp [zA, h]
 have go2 : ¬ (c = 1 ∨ c = 2 ∨ c = 14) → (c = 3 ∨ c = 11 ∨ c = 15) → zA c = (1, 0) := fun h1 h => by simp [zA, h1, h]
 conv => whnf
 refine kbi (fun h1 => ?_) (fun h1 => ?_)
 ·have : c = 1 := by simpa using h1
  conv => whnf
  rw [go1 (.inl this)]
 conv => whnf
 refine kbi (fun h2 => ?_) (fun h2 => ?_)
 ·have : c = 2 := by simpa using h2
  conv => whnf
  rw [go1 (.inr (.inl this))]
 conv => whnf
 refine kbi (fun h3 => ?_) (fun h3 => ?_)
 ·have : c = 14 := by simpa using h3
  conv => whnf
  rw [go1 (.inr (.inr this))]
 have hn : ¬ (c = 1 ∨ c = 2 ∨ c = 14) := by simp at h1 h2 h3; omega
 conv => whnf
 refine kbi (fun g1 => ?_) (fun g1 => ?_)
 ·have : c = 3 := by simpa using g1
  conv => whnf
  rw [go2 hn (.inl this)]
 conv => whnf
 refine kbi (fun g2 => ?_) (fun g2 => ?_)
 ·have : c = 11 := by simpa using g2
  conv => whnf
  rw [go2 hn (.inr (.inl this))]
 conv => whnf
 refine kbi (fun g3 => ?_) (fun g3 => ?_)
 ·have : c = 15 := by simpa using g3
  conv => whnf
  rw [go2 hn (.inr (.inr this))]
 have hn2 : ¬ (c = 3 ∨ c = 11 ∨ c = 15) := by simp at g1 g2 g3; omega
 conv => whnf
 refine ocase (qH c 4 9) (fun h => ?_) (fun h => ?_)
 ·conv => whnf
  have : zA c = (2, 1) := by simp only [zA, if_neg hn, if_neg hn2]; exact if_pos h
  rw [this]
 ·conv => whnf
  have : zA c = (0, 0) := by simp only [zA, if_neg hn, if_neg hn2]; exact if_neg h
  rw [this]
def yA (p : ProgL) (t : Th) : Option OpL := (p.rs.getD t.rt.toNat [])[t.pc.toNat]?
def op0 : OpL := ⟨0, 0, 0, 0⟩
def Th.inP (p : ProgL) (t : Th) : Prop := InR t.rt 0 (p.rs.length - 1) ∧ InR t.pc 0 (p.rs.getD t.rt.toNat []).length
theorem nB (p : ProgL) (t : Th) (hp : p.wf) (h : t.inP p) : CallsTo EE 132 [agg (encProg p), agg (zE t)] (· = .tup [agg (encOp ((yA p t).getD op0)), bv (yA p t).isSome]) := by
 refine callsTo_of_AW (fn := Tryz.f132) Tryz.func132 rfl (by kernel_rfl) rfl ?_
 obtain ⟨⟨a1, a2⟩, b1, b2⟩ := h
 have hr : t.rt.toNat < p.rs.length := by omega
 conv => whnf
 refine ⟨zW p.rs[t.rt.toNat], ⟨a1, ?_, rfl⟩, ?_⟩
 ·show (p.rs.map zW)[t.rt.toNat]? = _
  simp [hr]
 conv => whnf
 have hrow : p.rs.getD t.rt.toNat [] = p.rs[t.rt.toNat] := by simp [List.getD_eq_getElem?_getD, hr]
 rw [hrow] at b2
 refine kbi (fun h => ?_) (fun h => ?_)
 ·have h1 : t.pc = (p.rs[t.rt.toNat].length : Int) := by simpa using h
  have h2 : yA p t = none := by unfold yA; rw [hrow, h1]; simp
  conv => whnf
  rw [h2]
  rfl
 ·have h1 : t.pc.toNat < p.rs[t.rt.toNat].length := by simp at h; omega
  have h2 : yA p t = some p.rs[t.rt.toNat][t.pc.toNat] := by unfold yA; rw [hrow]; simp [h1]
  conv => whnf
  refine ⟨encOp p.rs[t.rt.toNat][t.pc.toNat], ⟨b1, ?_, rfl⟩, ?_⟩
  ·simp [h1]
  conv => whnf
  rw [h2]
  rfl
end Ai
end
section
set_option maxRecDepth 100000
namespace Ai
open Go Go.Proofs
def xA : Prop := ∀ (x : Nat) (many : Int), CallsTo EE 196 [.d (.flt x), i64 many] (· = .tup [i64 ((yO x many).getD 0), bv (yO x many).isSome])
def zT (s : StL) (t : Th) : Option Int := (t.stack.getLast?).bind fun x => yO x s.ths.length
theorem dT (hI : xA) (s : StL) (t : Th) (ht : t.stack.length ≤ 1048576) : CallsTo EE 163 [agg (encSt s), agg (zE t)] (· = i64 ((zT s t).getD (-1))) := by
 refine callsTo_of_AW (fn := Tryz.f163) Tryz.func163 rfl (by kernel_rfl) rfl ?_
 conv => whnf
 refine kbi (fun h => ?_) (fun h => ?_)
 ·have h1 : t.stack = [] := by
   have : (t.stack.map encF).length = 0 := by simpa using h
   simpa using this
  conv => whnf
  simp [zT, h1]
 ·have hne : t.stack ≠ [] := fun e => h (by rw [e]; rfl)
  have hpos : 0 < t.stack.length := List.length_pos_iff.2 hne
  conv => whnf
  refine .inr (.inl ⟨17, [], ?_⟩)
  conv => whnf
  refine ⟨encF (t.stack.getLast hne), ⟨?_, ?_, rfl⟩, ?_⟩
  ·rw [zH (by simp; omega) (by simp; omega)]; simp; omega
  ·rw [zH (by simp; omega) (by simp; omega)]
   have e : ((((t.stack.map encF).length : Int) - 1).toNat) = t.stack.length - 1 := by simp
   rw [e, List.getElem?_map, ← List.getLast?_eq_getElem?, List.getLast?_eq_some_getLast hne]
   rfl
  conv => whnf
  refine ⟨_, hI _ _, ?_⟩
  conv => whnf
  have hj : zT s t = yO (t.stack.getLast hne) (s.ths.map zE).length := by
   unfold zT
   rw [List.getLast?_eq_some_getLast hne]
   simp
  rw [← hj]
  refine ⟨by kernel_rfl, ?_⟩
  conv => whnf
  cases h2 : zT s t with
  |none =>
   conv => whnf
   rfl
  |some k =>
   conv => whnf
   rfl
end Ai
end
