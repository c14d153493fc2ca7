import Derived.Test.YtjkogkjhhjioeaaGreatDoorZB
import Derived.Scope
import Derived.Test.YtjkogkjhhjioeaaGreatDoorProg
import Derived.Lib.LaidTab
import Derived.Shelf.Strconv.Itoa3
import Derived.IntWalk
import Derived.Lib.Join
import Derived.Shelf.Slices.Clone
import Derived.Shelf.Slices.Delete
import Derived.Ground.Names2Prog
import Derived.WalkKit
import Derived.ChangeArms
import Derived.Deep.Slices
set_option maxHeartbeats 8000000
set_option linter.unusedVariables false
set_option linter.unusedSimpArgs false
section
namespace Ai
open Go Go.RowKit
section
variable {E : Env} {N : Nat} {A : Fr} {w0 w w' : World} {m m' : Own} {s s' : St} {a : Act} {dst : Option Tmp}
def qO (N : Nat) (op : Op) (s s' : St) : Prop := (∀ x ∈ op.operands,ev N s' x = ev N s x) ∧ ∀ κ,cls κ ∈ yF (evs N s op.operands) → s'.H κ = s.H κ
theorem wT {xs : Array Operand} {x : Operand} (hx : x ∈ xs) {c : Nat} (hc : c ∈ zK (ev N s x)) : c ∈ yF (evs N s xs) :=
 xA.2 ⟨_,List.mem_map.2 ⟨x,by simpa using hx,rfl⟩,hc⟩
def eff (v : AV) (O : Key → Option Ob) (d2 dst : Option Tmp) (s : St) : St := put dst v (put d2 .junk (over O s))
def AOpX (E : Env) (N : Nat) (op : Op) (dst : Option Tmp) (s : St) (K : St → Prop) : Prop := ∃ K1 : St → Prop,AOp E N op dst s K1 ∧ ∀ s1,K1 s1 → ∃ s2,Weak E N s1 s2 ∧ K s2
theorem AOpX.of {op : Op} {K : St → Prop} (h : AOp E N op dst s K) : AOpX E N op dst s K := ⟨K,h,fun s1 h1 => ⟨s1,fun A w0 m a w hS => ⟨m,hS⟩,h1⟩⟩
def Pkc (E : Env) (N : Nat) (op : Op) (dst : Option Tmp) (s : St) (v : AV) (O : Key → Option Ob) (wr fr vk : List Nat) : Prop :=
 (∀ κ,O κ ≠ none → cls κ ∈ wr) ∧ ∀ s',qO N op s s' → (∀ c ∈ fr,NoK c s') → (∀ d,wG op = some d → Only (3 * d) d s') →
  (∀ K : St → Prop,K (eff v O (wG op) dst s') → AOpX E N op dst s' K) ∧ (∀ c,c ∉ vk → NoK c s' → NoK c (eff v O (wG op) dst s')) ∧
  (∀ c d,c ∉ vk → Only c d s' → Only c d (eff v O (wG op) dst s')) ∧ (∀ d,dst = some d → Only (3 * d) d s' → Only (3 * d) d (eff v O (wG op) dst s'))
theorem pA {op : Op} {v : AV} {O : Key → Option Ob} {wr fr vk : List Nat} (hj : wG op = none) (h1 : ∀ κ,O κ ≠ none → cls κ ∈ wr) (hv : ∀ d,dst = some d → ∀ c ∈ zK v,c ∈ vk)
  (hob : ∀ s',qO N op s s' → ∀ c,c ∉ vk → (∀ κ ob,s'.H κ = some ob → c ∉ yM ob) → ∀ κ ob,O κ = some ob → c ∉ yM ob) (hO : ∀ s',qO N op s s' → ∀ c,c ∉ vk → NoK c s' → ∀ κ,O κ ≠ none → cls κ ≠ c)
  (hd : ∀ s',qO N op s s' → ∀ d,dst = some d → (∀ κ ob,s'.H κ = some ob → 3 * d ∉ yM ob) → ∀ κ ob,O κ = some ob → 3 * d ∉ yM ob)
  (hop : ∀ s',qO N op s s' → (∀ c ∈ fr,NoK c s') → ∀ K : St → Prop,K (put dst v (over O s')) → AOp E N op dst s' K) : Pkc E N op dst s v O wr fr vk := by
 refine ⟨h1,fun s' hA hf _ => ?_⟩
 rw [hj]
 refine ⟨fun K hK => .of (hop s' hA hf K hK),fun c hc hn => ?_,fun c d hc hn => ?_,fun d hdd hn => ?_⟩
 ·exact (hn.over (hO s' hA c hc hn) (hob s' hA c hc hn.obj)).put _ fun d hd hm => hc (hv d hd c hm)
 ·exact (hn.over (hob s' hA c hc hn.obj)).put _ fun e he _ hm => hc (hv e he c hm)
 ·exact (hn.over (hd s' hA d hdd hn.obj)).put _ fun e he hne => absurd (by rw [hdd] at he; injection he with he; exact he.symm) hne
theorem r6 (v : AV) (O : Key → Option Ob) (dst : Option Tmp) (s : St) : eff v O none dst s = put dst v (over O s) := rfl
theorem pC {c : Nat} : ∀ κ ob,(fun _ => none : Key → Option Ob) κ = some ob → c ∉ yM ob := fun κ ob h => by cases h
theorem wB {op : Op} {k : KE} (hj : wG op = none) (G : Option Tmp → St → (St → Prop) → Prop) (kz : List Nat) (hl : bI G kz s) (hz : ∀ c ∈ kz,c ∈ yF (evs N s op.operands)) (h : G dst s (uT dst k))
  (hop : ∀ s',qO N op s s' → ∀ K,G dst s' K → AOp E N op dst s' K) : ∃ v O wr fr vk,k wr fr vk (eff v O (wG op) dst s) ∧ Pkc E N op dst s v O wr fr vk := by
 obtain ⟨v,h1,h2⟩ := hl dst _ h
 refine ⟨v,fun _ => none,_,_,_,by rw [hj]; exact h1,pA hj (fun κ hk => absurd rfl hk) (fun d hd c hc => ?_) (fun _ _ _ _ _ => pC) (fun _ _ _ _ _ κ hk => absurd rfl hk) (fun _ _ _ _ _ => pC) (fun s' hA _ K hK => hop s' hA K (h2 s' (fun κ hk => hA.2 κ (hz _ hk)) dst K hK))⟩
 subst hd
 simpa [vkOf,put,nbeq_self] using hc
theorem qX {op : Op} {k : KE} {v : AV} (hj : wG op = none) (h : k [] [] (zK v) (put dst v s)) (hop : ∀ s',qO N op s s' → ∀ K : St → Prop,K (put dst v s') → AOp E N op dst s' K) :
  ∃ v O wr fr vk,k wr fr vk (eff v O (wG op) dst s) ∧ Pkc E N op dst s v O wr fr vk :=
 ⟨v,fun _ => none,_,_,_,by rw [hj]; exact h,pA hj (fun κ hk => absurd rfl hk) (fun _ _ c hc => hc) (fun _ _ _ _ _ => pC) (fun _ _ _ _ _ κ hk => absurd rfl hk) (fun _ _ _ _ _ => pC) (fun s' hA _ K hK => hop s' hA K hK)⟩
theorem kQ : ∀ (l : List AV) (b i : Nat) (v : AV),l[i]? = some v → ∀ c ∈ (match v with
  | .uq .. => [3 * (b + i)]
  | .uqd .. => [3 * (b + i),3 * (b + i) + 1]
  | _ => ([] : List Nat)),c ∈ fB b l
 | [],b,i,v,h,c,hc => by simp at h
 |x :: xs,b,0,v,h,c,hc => by
  simp at h; subst h
  simp only [fB,List.mem_append]
  left
  cases x <;> first | (simp at hc; done) | simpa using hc
 |x :: xs,b,i + 1,v,h,c,hc => by
  simp only [fB,List.mem_append]
  right
  refine kQ xs (b + 1) i v (by simpa using h) c ?_
  rw [show b + 1 + i = b + (i + 1) from by omega]; exact hc
theorem iZ {cs : List AV} {κ : Key} (h : ownH cs κ ≠ none) : cls κ ∈ fB 900 cs := by
 cases κ with
 |n kk =>
  simp only [ownH] at h
  cases hlt : Nat.blt kk 900 with
  |true => rw [hlt] at h; exact absurd rfl h
  |false =>
   rw [hlt] at h
   simp only [cond_false] at h
   have hge : 900 ≤ kk := by
    rcases Nat.lt_or_ge kk 900 with h1 | h1
    ·have : Nat.blt kk 900 = true := by simpa [Nat.blt_eq] using h1
     rw [this] at hlt; cases hlt
    ·exact h1
   split at h
   ·rename_i hc
    exact kQ cs 900 (kk - 900) _ hc _ (by simp [cls]; omega)
   ·rename_i hc
    exact kQ cs 900 (kk - 900) _ hc _ (by simp [cls]; omega)
   ·exact absurd rfl h
 |s o j =>
  simp only [ownH] at h
  cases hlt : Nat.blt o 900 with
  |true => rw [hlt] at h; exact absurd rfl h
  |false =>
   rw [hlt] at h
   simp only [cond_false] at h
   have hge : 900 ≤ o := by
    rcases Nat.lt_or_ge o 900 with h1 | h1
    ·have : Nat.blt o 900 = true := by simpa [Nat.blt_eq] using h1
     rw [this] at hlt; cases hlt
    ·exact h1
   split at h
   ·rename_i hc
    exact kQ cs 900 (o - 900) _ hc _ (by simp [cls]; omega)
   ·exact absurd rfl h
 |l n => exact absurd rfl h
theorem ownH_keys {cs : List AV} {κ : Key} {ob : Ob} (h : ownH cs κ = some ob) : ∀ c ∈ yM ob,c ∈ fB 900 cs := by
 cases κ with
 |n kk =>
  simp only [ownH] at h
  cases hlt : Nat.blt kk 900 with
  |true => rw [hlt] at h; cases h
  |false =>
   rw [hlt] at h
   simp only [cond_false] at h
   have hge : 900 ≤ kk := by
    rcases Nat.lt_or_ge kk 900 with h1 | h1
    ·have : Nat.blt kk 900 = true := by simpa [Nat.blt_eq] using h1
     rw [this] at hlt; cases hlt
    ·exact h1
   split at h
   ·injection h with h; subst h; intro c hc; simp [yM] at hc
   ·rename_i hcs
    injection h with h; subst h
    intro c hc
    simp only [yM,List.mem_flatMap] at hc
    obtain ⟨row,hr,hc⟩ := hc
    obtain ⟨v,hv,hc⟩ := xA.1 hc
    obtain ⟨j,hj⟩ := List.getElem?_of_mem hr
    simp only [ownRows,List.getElem?_mapIdx,Option.map_eq_some_iff] at hj
    obtain ⟨row0,_,rfl⟩ := hj
    rcases List.mem_or_eq_of_mem_set hv with hv | rfl
    ·obtain ⟨x,_,rfl⟩ := List.mem_map.1 hv
     simp [zK] at hc
    ·simp only [zK,List.mem_singleton] at hc
     subst hc
     exact kQ cs 900 (kk - 900) _ hcs _ (by simp [cls]; omega)
   ·cases h
 |s o j =>
  simp only [ownH] at h
  cases hlt : Nat.blt o 900 with
  |true => rw [hlt] at h; cases h
  |false =>
   rw [hlt] at h
   simp only [cond_false] at h
   split at h
   ·obtain ⟨q,_,rfl⟩ := Option.map_eq_some_iff.1 h
    intro c hc; simp [yM] at hc
   ·cases h
 |l n => cases h
theorem aS : ∀ (l : List AV) (b : Nat),∀ c ∈ yF (ownR1 b l),c ∈ fB b l ++ yF l
 | [],b,c,hc => by simp [ownR1,yF] at hc
 |v :: vs,b,c,hc => by
  simp only [ownR1,yF,List.mem_append] at hc
  simp only [fB,yF,List.mem_append]
  rcases hc with hc | hc
  ·cases v <;> first | (simp only [zK,List.mem_singleton] at hc; subst hc; left; left; simp [cls]; done) | (right; left; exact hc)
  ·have := aS vs (b + 1) c hc
   simp only [List.mem_append] at this
   rcases this with h | h
   ·exact .inl (.inr h)
   ·exact .inr (.inr h)
theorem wrap_keys : ∀ (f : Nat) {l : List AV} {c : Nat},c ∈ zK (jV f l) → c ∈ yF l
 | 0,l,c,h => h
 | 1,l,c,h => by
  match l,h with
  | [],h => exact h
  | [x],h => exact List.mem_append_left _ h
  |x :: y :: l,h => exact h
 |k + 2,l,c,h => by
  simp only [jV,zK,yF,List.mem_append] at h
  rcases h with h | h
  ·obtain ⟨v,hv,hc⟩ := xA.1 h
   exact xA.2 ⟨v,List.mem_of_mem_take hv,hc⟩
  ·obtain ⟨v,hv,hc⟩ := xA.1 h
   exact xA.2 ⟨v,List.mem_of_mem_drop hv,hc⟩
theorem o7 {cs : List AV} (h : ∀ c ∈ fB 900 cs,NoK c s) : s.addOwn cs = over (ownH cs) s := by
 have hp : ∀ κ,(ownH cs κ).isSome = true → NoK (cls κ) s := fun κ hk => h _ (iZ (by intro e; rw [e] at hk; cases hk))
 cases s with
 |mk τ H =>
  simp only [St.addOwn,over,St.mk.injEq]
  constructor
  ·funext i
   exact sA _ fun κ hk hm => (hp κ hk).tmp i hm
  ·funext κ
   cases hq : ownH cs κ with
   |some ob => rfl
   |none =>
    simp only
    cases ho : H κ with
    |none => rfl
    |some ob =>
     simp only [Option.map_some,Option.some.injEq]
     exact lE ob fun κ' hk hm => (hp κ' hk).obj κ ob ho hm
theorem ret_inv {op : Op} {k : KE} {r : AV} (hj : wG op = none) (h : retE dst s k r) : ∃ v O wr fr vk,k wr fr vk (eff v O (wG op) dst s) ∧
  ((∀ s',qO N op s s' → (∀ c ∈ fr,NoK c s') → ∀ K : St → Prop,cP dst s' K r → AOp E N op dst s' K) → Pkc E N op dst s v O wr fr vk) := by
 have plain : ∀ r : AV,(∀ s' (K : St → Prop),K (put dst r s') → cP dst s' K r) → k [] [] (zK r) (put dst r s) → ∃ v O wr fr vk,k wr fr vk (eff v O (wG op) dst s) ∧
   ((∀ s',qO N op s s' → (∀ c ∈ fr,NoK c s') → ∀ K : St → Prop,cP dst s' K r → AOp E N op dst s' K) → Pkc E N op dst s v O wr fr vk) :=
  fun r h1 h2 => ⟨r,fun _ => none,_,_,_,by rw [hj]; exact h2,fun hop => pA hj (fun κ hk => absurd rfl hk) (fun _ _ c hc => hc) (fun _ _ _ _ _ => pC) (fun _ _ _ _ _ κ hk => absurd rfl hk) (fun _ _ _ _ _ => pC) (fun s' hA hf K hK => hop s' hA hf K (h1 s' K hK))⟩
 cases r with
 |uq e sz els =>
  rcases h with h | ⟨t,rfl,h⟩
  ·exact ⟨_,fun _ => none,_,_,_,by rw [hj]; exact h,fun hop => pA hj (fun κ hk => absurd rfl hk) (fun _ _ c hc => by simp [zK] at hc) (fun _ _ _ _ _ => pC) (fun _ _ _ _ _ κ hk => absurd rfl hk) (fun _ _ _ _ _ => pC) (fun s' hA hf K hK => hop s' hA hf K (.inl hK))⟩
  ·have hds : ∀ c κ ob,one (.n t) (.ds e sz els) κ = some ob → c ∉ yM ob := fun c κ ob ho => by
    have := qQ (κ := .n t) (by rw [ho]; simp)
    subst this
    simp [one,zD] at ho; subst ho; simp [yM]
   refine ⟨_,_,_,_,_,by rw [hj]; exact h,fun hop => pA hj (fun κ hk => by rw [qQ hk]; simp [cls]) (fun _ _ c hc => by simpa [zK,cls] using hc) (fun _ _ c _ _ => hds c) (fun _ _ c hc _ κ hk => ?_) (fun _ _ d _ _ => hds _) (fun s' hA hf K hK => hop s' hA hf K (.inr ⟨t,rfl,?_⟩))⟩
   ·rw [qQ hk]; exact fun e => hc (by simp [← e,cls])
   ·rw [b9 (hf _ (by simp [cls])) (by simp [yM])]; exact hK
 |ownF f cs =>
  refine ⟨ownR f cs,ownH cs,_,_,_,by rw [hj]; exact h,fun hop => pA hj (fun κ hk => iZ hk) (fun _ _ c hc => aS cs 900 c (wrap_keys f hc)) (fun _ _ c hc _ κ ob ho hm => hc (List.mem_append_left _ (ownH_keys ho c hm))) (fun _ _ c hc _ κ hk he => hc (List.mem_append_left _ (he ▸ iZ hk))) (fun _ _ d _ _ κ ob ho hm => ?_) (fun s' hA hf K hK => hop s' hA hf K ?_)⟩
  ·-- names of rows within rows are of another class
   have : ∀ (κ : Key) (ob : Ob),ownH cs κ = some ob → ∀ c ∈ yM ob,c % 3 = 1 := by
    intro κ ob ho c hc
    cases κ with
    |n kk =>
     simp only [ownH] at ho
     cases hlt : Nat.blt kk 900 with
     |true => rw [hlt] at ho; cases ho
     |false =>
      rw [hlt] at ho
      simp only [cond_false] at ho
      split at ho
      ·injection ho with ho; subst ho; simp [yM] at hc
      ·injection ho with ho; subst ho
       simp only [yM,List.mem_flatMap] at hc
       obtain ⟨row,hr,hc⟩ := hc
       obtain ⟨v,hv,hc⟩ := xA.1 hc
       obtain ⟨j,hj⟩ := List.getElem?_of_mem hr
       simp only [ownRows,List.getElem?_mapIdx,Option.map_eq_some_iff] at hj
       obtain ⟨row0,_,rfl⟩ := hj
       rcases List.mem_or_eq_of_mem_set hv with hv | rfl
       ·obtain ⟨x,_,rfl⟩ := List.mem_map.1 hv
        simp [zK] at hc
       ·simp only [zK,List.mem_singleton] at hc
        subst hc
        simp [cls]
      ·cases ho
    |s o j =>
     simp only [ownH] at ho
     cases hlt : Nat.blt o 900 with
     |true => rw [hlt] at ho; cases ho
     |false =>
      rw [hlt] at ho
      simp only [cond_false] at ho
      split at ho
      ·obtain ⟨q,_,rfl⟩ := Option.map_eq_some_iff.1 ho
       simp [yM] at hc
      ·cases ho
    |l n => cases ho
   have := this κ ob ho _ hm
   omega
  ·show K (put dst (ownR f cs) (s'.addOwn cs))
   rw [o7 fun c hc => hf c hc]; exact hK
 | _ => exact plain _ (fun _ _ h => h) h
theorem z6 {x : AV} {cs : List AV} (h : cellsOf x = some cs) : yF cs = zK x := by
 cases x with
 |agg cs0 =>
  simp only [cellsOf] at h
  cases hb : cs0.all yO with
  |false => rw [hb] at h; cases h
  |true => rw [hb] at h; simp only [cond_true,Option.some.injEq] at h; subst h; rfl
 |junk => simp [cellsOf,yO] at h
 |tup vs => simp [cellsOf,yO] at h
 |uq e sz els => simp [cellsOf,yO] at h
 |uqd e sz c e2 sz2 rows subs => simp [cellsOf,yO] at h
 |ownF f cs => simp [cellsOf,yO] at h
 | _ => simp only [cellsOf,yO,cond_true,Option.some.injEq] at h; subst h; simp [yF]
theorem dN {α : Type} : ∀ (cs : List α) (off : Nat) (xs : List α) (x : α),x ∈ zU cs off xs → x ∈ cs ∨ x ∈ xs
 |cs,0,xs,x,h => by
  have e : zU cs 0 xs = xs ++ cs.drop xs.length := by cases cs <;> rfl
  rw [e,List.mem_append] at h
  rcases h with h | h
  ·exact .inr h
  ·exact .inl (List.mem_of_mem_drop h)
 |c :: cs,off + 1,xs,x,h => by
  simp only [zU,List.mem_cons] at h
  rcases h with rfl | h
  ·simp
  ·rcases dN cs off xs x h with h | h
   ·exact .inl (List.mem_cons_of_mem _ h)
   ·exact .inr h
 | [],off + 1,xs,x,h => by simp [zU] at h
theorem setElR_mem {rows : List (List AV)} {sz j off : Nat} {xs r : List AV} (h : r ∈ xC rows sz j off xs) : ∀ x ∈ r,(∃ r0 ∈ rows,x ∈ r0) ∨ x ∈ xs := by
 intro x hx
 unfold xC at h
 cases hb : (Nat.beq off 0 && Nat.beq xs.length sz) with
 |true =>
  rw [hb] at h
  rcases List.mem_or_eq_of_mem_set h with h | rfl
  ·exact .inl ⟨r,h,hx⟩
  ·exact .inr hx
 |false =>
  rw [hb] at h
  simp only [cond_false] at h
  obtain ⟨i,hi⟩ := List.getElem?_of_mem h
  rw [List.getElem?_modify] at hi
  obtain ⟨r0,hr0,he⟩ := Option.map_eq_some_iff.1 hi
  split at he
  ·subst he
   rcases dN _ _ _ _ hx with h1 | h1
   ·exact .inl ⟨r0,List.mem_of_getElem? hr0,h1⟩
   ·exact .inr h1
  ·subst he; exact .inl ⟨_,List.mem_of_getElem? hr0,hx⟩
theorem store_inv {k : KE} {T : TypeId} {ad x : Operand} (h : gX E T (ev N s ad) (ev N s x) none s (k (zK (ev N s ad)) [] (zK (ev N s x)))) :
  ∃ v O wr fr vk,k wr fr vk (eff v O (wG (.store T ad x)) none s) ∧ Pkc E N (.store T ad x) none s v O wr fr vk := by
 have had : ∀ s',qO N (.store T ad x) s s' → ev N s' ad = ev N s ad ∧ ev N s' x = ev N s x := fun s' hA => ⟨hA.1 ad (by simp [Op.operands]),hA.1 x (by simp [Op.operands])⟩
 have hkey : ∀ c ∈ zK (ev N s ad),c ∈ yF (evs N s (Op.store T ad x).operands) := fun c hc => wT (by simp [Op.operands]) hc
 have fin : ∀ (o : Key) (ob ob' : Ob),s.H o = some ob → cls o ∈ zK (ev N s ad) → k (zK (ev N s ad)) [] (zK (ev N s x)) (put none xJ (s.setH o ob')) →
   (∀ s',qO N (.store T ad x) s s' → s'.H o = some ob → ∀ K : St → Prop,K (put none xJ (s'.setH o ob')) → AOp E N (.store T ad x) none s' K) →
   (∀ c ∈ yM ob',c ∈ yM ob ∨ c ∈ zK (ev N s x)) → ∃ v O wr fr vk,k wr fr vk (eff v O (wG (.store T ad x)) none s) ∧ Pkc E N (.store T ad x) none s v O wr fr vk := by
  intro o ob ob' hO hcl hk hop hko
  have hO' : ∀ s',qO N (.store T ad x) s s' → s'.H o = some ob := fun s' hA => (hA.2 o (hkey _ hcl)).trans hO
  have hobs : ∀ s',qO N (.store T ad x) s s' → ∀ c,c ∉ zK (ev N s x) → (∀ κ ob,s'.H κ = some ob → c ∉ yM ob) → ∀ κ ob2,one o ob' κ = some ob2 → c ∉ yM ob2 := by
   intro s' hA c hc hn κ ob2 ho2 hm
   have := qQ (κ := o) (by rw [ho2]; simp)
   subst this
   simp [one,zD] at ho2; subst ho2
   rcases hko c hm with h1 | h1
   ·exact hn κ ob (hO' s' hA) h1
   ·exact hc h1
  refine ⟨xJ,one o ob',zK (ev N s ad),[],zK (ev N s x),by show k _ _ _ (put none xJ (over (one o ob') s)); rw [← mR]; exact hk,pA rfl (fun κ hκ => by rw [qQ hκ]; exact hcl) (fun d hd => by cases hd) hobs (fun s' hA c hc hn κ hκ he => ?_) (fun _ _ d hd => by cases hd) (fun s' hA _ K hK => hop s' hA (hO' s' hA) K (by rw [mR]; exact hK))⟩
  rw [qQ hκ] at he
  have := hn.none o he
  rw [hO' s' hA] at this; cases this
 unfold gX at h
 split at h
 ·rename_i ti cs hti hcs
  have hck := z6 hcs
  cases hb : Nat.beq cs.length ti.sz with
  |false => rw [hb] at h; exact h.elim
  |true =>
   rw [hb] at h
   simp only [cond_true] at h
   split at h
   ·rename_i o off had0
    split at h
    ·rename_i e cs0 hO
     cases hb2 : Nat.ble (off + cs.length) cs0.length with
     |false => rw [hb2] at h; exact h.elim
     |true =>
      rw [hb2] at h
      simp only [cond_true] at h
      refine fin o _ _ hO (by rw [had0]; simp [zK]) h (fun s' hA hO' K hK => ?_) (fun c hc => ?_)
      ·obtain ⟨e1,e2⟩ := had s' hA
       simp only [AOp,gX,e1,e2,had0,hti,hcs,hb,hO',hb2,cond_true]
       exact hK
      ·simp only [yM] at hc ⊢
       obtain ⟨v,hv,hcv⟩ := xA.1 hc
       rcases dN _ _ _ _ hv with h1 | h1
       ·exact .inl (xA.2 ⟨v,h1,hcv⟩)
       ·exact .inr (by rw [← hck]; exact xA.2 ⟨v,h1,hcv⟩)
    ·exact h.elim
   ·rename_i o j off had0
    split at h
    ·rename_i e sz els xs hO hxs
     cases hb2 : Nat.ble (off + xs.length) sz with
     |false => rw [hb2] at h; exact h.elim
     |true =>
      rw [hb2] at h
      simp only [cond_true] at h
      refine fin o _ _ hO (by rw [had0]; simp [zK]) h (fun s' hA hO' K hK => ?_) (fun c hc => by simp [yM] at hc)
      obtain ⟨e1,e2⟩ := had s' hA
      simp only [AOp,gX,e1,e2,had0,hti,hcs,hb,hO',hxs,hb2,cond_true]
      exact hK
    ·exact h.elim
   ·rename_i o j off had0
    split at h
    ·rename_i e sz rows hO
     cases hb2 : Nat.ble (off + cs.length) sz with
     |false => rw [hb2] at h; exact h.elim
     |true =>
      rw [hb2] at h
      simp only [cond_true] at h
      refine fin o _ _ hO (by rw [had0]; simp [zK]) h (fun s' hA hO' K hK => ?_) (fun c hc => ?_)
      ·obtain ⟨e1,e2⟩ := had s' hA
       simp only [AOp,gX,e1,e2,had0,hti,hcs,hb,hO',hb2,cond_true]
       exact hK
      ·simp only [yM,List.mem_flatMap] at hc ⊢
       obtain ⟨r,hr,hcr⟩ := hc
       obtain ⟨v,hv,hcv⟩ := xA.1 hcr
       rcases setElR_mem hr v hv with ⟨r0,h0,h1⟩ | h1
       ·exact .inl ⟨r0,h0,xA.2 ⟨v,h1,hcv⟩⟩
       ·exact .inr (by rw [← hck]; exact xA.2 ⟨v,h1,hcv⟩)
    ·exact h.elim
   ·exact h.elim
 ·exact h.elim
theorem bW {op : Op} {k : KE} {t : Tmp} {v : AV} {ob : Ob} {vk : List Nat} (hj : wG op = none) (h : k [3 * t] [3 * t] vk (put (some t) v (over (one t ob) s))) (hv : ∀ c ∈ zK v,c ∈ vk) (ht : 3 * t ∈ vk) (hob : ∀ c ∈ yM ob,c ∈ vk ∧ c ≠ 3 * t)
  (hop : ∀ s',qO N op s s' → ∀ K : St → Prop,K (put (some t) v (s'.new t ob)) → AOp E N op (some t) s' K) : ∃ v O wr fr vk,k wr fr vk (eff v O (wG op) (some t) s) ∧ Pkc E N op (some t) s v O wr fr vk := by
 have hone : ∀ κ ob',one (.n t) ob κ = some ob' → ob' = ob := fun κ ob' ho => by
  have := qQ (κ := .n t) (by rw [ho]; simp)
  subst this
  simp [one,zD] at ho; exact ho.symm
 refine ⟨_,_,_,_,_,by rw [hj]; exact h,pA hj (fun κ hk => by rw [qQ hk]; simp [cls]) (fun _ _ c hc => hv c hc) (fun _ _ c hc _ κ ob' ho hm => hc (hob c (hone κ ob' ho ▸ hm)).1) (fun _ _ c hc _ κ hk he => ?_) (fun _ _ d hd _ κ ob' ho hm => ?_) (fun s' hA hf K hK => hop s' hA K ?_)⟩
 ·rw [qQ hk] at he; exact hc (he ▸ ht)
 ·injection hd with hd; subst hd
  exact (hob _ (hone κ ob' ho ▸ hm)).2 rfl
 ·rw [b9 (hf _ (by simp [cls])) (fun hm => (hob _ hm).2 rfl)]; exact hK
theorem append_inv {c : Call} {k : KE} (hc : c.callee = .builtin .append) (h : aE E N (.call c) dst s k) : ∃ v O wr fr vk,k wr fr vk (eff v O (wG (.call c)) dst s) ∧ Pkc E N (.call c) dst s v O wr fr vk := by
 obtain ⟨cal,args,argT⟩ := c
 simp only at hc
 subst hc
 simp only [aE] at h
 split at h
 ·rename_i T T' d2 yo hT hargs
  have hjk : wG (.call ⟨.builtin .append,args,argT⟩) = some d2 := by simp only [wG,hargs]
  cases hb : (Nat.beq T T' && Nat.blt d2 N) with
  |false => rw [hb] at h; exact h.elim
  |true =>
   rw [hb] at h
   simp only [cond_true] at h
   simp only [Bool.and_eq_true] at hb
   split at h
   ·rename_i ti t hti
    split at h
    ·rename_i e hd
     split at h
     ·rename_i ei news o n hei hnews hτ
      cases hb2 : (Nat.beq o d2 && mZ (.n o) (ev N s yo) && !memN (3 * d2) (zK (ev N s yo)) && !Nat.beq ei.sz 0) with
      |false => rw [hb2] at h; exact h.elim
      |true =>
       rw [hb2] at h
       simp only [cond_true] at h
       simp only [Bool.and_eq_true,Bool.not_eq_true'] at hb2
       obtain ⟨⟨⟨e1,hnr⟩,hmn⟩,hz⟩ := hb2
       have e1 : o = d2 := Nat.eq_of_beq_eq_true e1
       subst e1
       split at h
       ·rename_i e' sz els hO
        cases hb3 : (Nat.beq e e' && Nat.beq sz ei.sz) with
        |false => rw [hb3] at h; exact h.elim
        |true =>
         rw [hb3] at h
         simp only [cond_true] at h
         obtain ⟨hcond,hk⟩ := h
         have hev : ev N s (.tmp o) = .ref (.n o) 0 n := by simp only [ev,hb.2,cond_true,hτ]
         have hmem : (Operand.tmp o) ∈ (Op.call ⟨.builtin .append,args,argT⟩).operands ∧ yo ∈ (Op.call ⟨.builtin .append,args,argT⟩).operands := by
          have : args = #[.tmp o,yo] := by apply Array.ext'; exact hargs
          subst this
          simp [Op.operands,Call.operands]
         have hone : ∀ κ ob',one (.n o) (.ds e sz (els.take n ++ news)) κ = some ob' → ∀ c,c ∉ yM ob' := fun κ ob' ho c hm => by
          have := qQ (κ := .n o) (by rw [ho]; simp)
          subst this
          simp [one,zD] at ho; subst ho; simp [yM] at hm
         refine ⟨_,_,_,_,_,by rw [hjk]; exact hk,fun κ hκ => by rw [qQ hκ]; simp [cls],fun s' hA _ hjs => ?_⟩
         rw [hjk]
         have hon := hjs o hjk
         have hτ' : s'.τ o = .ref (.n o) 0 n := by
          have := hA.1 _ hmem.1
          rw [hev] at this
          simpa only [ev,hb.2,cond_true] using this
         have hO' : s'.H (.n o) = some (.ds e' sz els) := (hA.2 _ (wT hmem.1 (by rw [hev]; simp [zK]))).trans hO
         have hy : ev N s' yo = ev N s yo := hA.1 _ hmem.2
         have hnews' : xR s' (ev N s yo) = some news := (sN fun κ hκ => hA.2 κ (wT hmem.2 hκ)).trans hnews
         refine ⟨fun K hK => .of ?_,fun c hc hn => ?_,fun c d hc hn => ?_,fun d hdd hn => ?_⟩
         ·have hevs : evs N s' args = [.ref (.n o) 0 n,ev N s yo] := by
           have : args = #[.tmp o,yo] := by apply Array.ext'; exact hargs
           subst this
           have h1 : ev N s' (.tmp o) = .ref (.n o) 0 n := by simp only [ev,hb.2,cond_true,hτ']
           simp [evs,h1,hy]
          have hTT : T = T' := Nat.eq_of_beq_eq_true hb.1
          subst hTT
          simp only [AOp,fE,hT,hevs,hb.1,cond_true]
          have happ : fA E T (.ref (.n o) 0 n) (ev N s yo) (some t) s' K := by
           simp only [fA,hti,hd,hei,hnews',hz,cond_false,hnr,cond_true,hO',hb3]
           refine ⟨hcond,?_⟩
           rw [eC hon hτ']
           exact hK
          have hnd : ∀ q m,ev N s yo ≠ .dref q m := by
           intro q m he
           rw [he] at hnews
           simp [xR] at hnews
          generalize ev N s yo = y at happ hnd
          cases y <;> first | exact happ | exact absurd rfl (hnd _ _)
         ·have hct : c ≠ 3 * o := by simpa using hc
          refine NoK.put (NoK.put (hn.over (fun κ hκ => by rw [qQ hκ]; exact fun e => hct e.symm) (fun κ ob' ho => hone κ ob' ho c)) _ fun _ _ => by simp [zK]) _ fun _ _ => by simp [zK,cls]; exact hct
         ·have hct : c ≠ 3 * o := by simpa using hc
          exact Only.put (Only.put (hn.over fun κ ob' ho => hone κ ob' ho c) _ fun _ _ _ => by simp [zK]) _ fun _ _ _ => by simp [zK,cls]; exact hct
         ·exact Only.put (Only.put (hn.over fun κ ob' ho => hone κ ob' ho _) _ fun _ _ _ => by simp [zK]) _ fun e he hne => absurd (by rw [hdd] at he; injection he with he; exact he.symm) hne
       ·exact h.elim
     ·exact h.elim
    ·exact h.elim
   ·exact h.elim
 ·exact h.elim
theorem bL {d t : Nat} {o : Key} (h : ¬ 3 * d = cls o) (h2 : ¬ 3 * t = cls o) : swp (.n d) (.n t) o = o := by
 have h1 : o ≠ .n d := fun e => h (by rw [e]; rfl)
 have h3 : o ≠ .n t := fun e => h2 (by rw [e]; rfl)
 simp [swp,zB h1,zB h3]
mutual
theorem ren_id2 {d t : Nat} : ∀ v : AV,3 * d ∉ zK v → 3 * t ∉ zK v → ren (swp (.n d) (.n t)) v = v
 | .ref o off n,h1,h2 => by simp only [ren,bL (h := by simpa [zK] using h1) (h2 := by simpa [zK] using h2)]
 | .ptr o off,h1,h2 => by simp only [ren,bL (h := by simpa [zK] using h1) (h2 := by simpa [zK] using h2)]
 | .eptr o j off,h1,h2 => by simp only [ren,bL (h := by simpa [zK] using h1) (h2 := by simpa [zK] using h2)]
 | .dref o n,h1,h2 => by simp only [ren,bL (h := by simpa [zK] using h1) (h2 := by simpa [zK] using h2)]
 | .dptr o j off,h1,h2 => by simp only [ren,bL (h := by simpa [zK] using h1) (h2 := by simpa [zK] using h2)]
 | .mref o,h1,h2 => by simp only [ren,bL (h := by simpa [zK] using h1) (h2 := by simpa [zK] using h2)]
 | .agg cs,h1,h2 => by simp only [ren,kM cs (by simpa [zK] using h1) (by simpa [zK] using h2)]
 | .tup cs,h1,h2 => by simp only [ren,kM cs (by simpa [zK] using h1) (by simpa [zK] using h2)]
 | .fn f cs,h1,h2 => by simp only [ren,kM cs (by simpa [zK] using h1) (by simpa [zK] using h2)]
 | .junk,_,_ => rfl
 | .d x,_,_ => rfl
 | .fp cs,_,_ => rfl
 | .uq e sz els,_,_ => rfl
 | .uqd e sz c e2 sz2 rows subs,_,_ => rfl
 | .ownF f cs,_,_ => rfl
 | .lit v,_,_ => rfl
theorem kM {d t : Nat} : ∀ l : List AV,3 * d ∉ yF l → 3 * t ∉ yF l → renL (swp (.n d) (.n t)) l = l
 | [],_,_ => rfl
 |v :: vs,h1,h2 => by
  simp only [yF,List.mem_append,not_or] at h1 h2
  simp only [renL,ren_id2 v h1.1 h2.1,kM vs h1.2 h2.2]
end
theorem renO_id2 {d t : Nat} (ob : Ob) (h1 : 3 * d ∉ yM ob) (h2 : 3 * t ∉ yM ob) : renO (swp (.n d) (.n t)) ob = ob := by
 cases ob with
 |vs e cs => simp only [renO,kM cs (by simpa [yM] using h1) (by simpa [yM] using h2)]
 |ds e sz els => rfl
 |rs e sz rows =>
  have : rows.map (renL (swp (.n d) (.n t))) = rows := by
   conv => rhs; rw [← List.map_id rows]
   refine List.map_congr_left fun r hr => kM r (fun hm => h1 ?_) (fun hm => h2 ?_)
   ·simp only [yM,List.mem_flatMap]; exact ⟨r,hr,hm⟩
   ·simp only [yM,List.mem_flatMap]; exact ⟨r,hr,hm⟩
  simp only [renO,this]
 |mp ag ps => rfl
theorem weak_chain {d t n : Nat} {e : TypeId} {sz : Nat} {els : List (List D)} (hne : d ≠ t) (hno : NoK (3 * t) s) (hon : Only (3 * d) d s) :
  Weak E N (put (some t) (.ref (.n d) 0 n) (put (some d) .junk (over (one (.n d) (.ds e sz els)) s))) (put (some t) (.ref (.n t) 0 n) (put (some d) .junk (over (two (.n t) (.n d) (.ds e sz els) (.ds e sz [])) s))) := by
 have ek : ∀ κ : Key,κ ≠ .n d → κ ≠ .n t → swp (.n d) (.n t) κ = κ := fun κ h1 h2 => by simp [swp,zB h1,zB h2]
 have hq : ∀ κ,isK (.n d) κ = true → κ = .n d := fun κ h => yJ h
 have e2 : ((put (some t) (.ref (.n d) 0 n) (put (some d) .junk (over (one (.n d) (.ds e sz els)) s))).swap (.n d) (.n t)).new (.n d) (.ds e sz []) = put (some t) (.ref (.n t) 0 n) (put (some d) .junk (over (two (.n t) (.n d) (.ds e sz els) (.ds e sz [])) s)) := by
  cases s with
  |mk τ H =>
   simp only [St.new,St.setH,St.kill,St.swap,put,over,St.mk.injEq]
   constructor
   ·funext i
    by_cases hi : i = t
    ·subst hi
     rw [nbeq_self]
     have : isK (.n d) (.n i) = false := nbeq_ne (Ne.symm hne)
     simp [ren,swp,zD,scrP,this]
    rw [nbeq_ne hi]
    by_cases hi2 : i = d
    ·subst hi2
     rw [nbeq_self]; rfl
    rw [nbeq_ne hi2]
    have h1 := hon.tmp i hi2
    have h2 := hno.tmp i
    show scrP _ (ren _ (τ i)) = τ i
    rw [ren_id2 _ h1 h2]
    exact sA _ fun o ho hm => h1 (by rw [hq o ho] at hm; exact hm)
   ·funext κ
    by_cases h1 : κ = .n d
    ·subst h1
     have : Key.beq (.n d) (.n t) = false := zB fun e => by injection e with e; exact hne e
     simp [zD,two,this,scrPO]
    rw [zB h1,cond_false]
    by_cases h2 : κ = .n t
    ·subst h2
     have : swp (.n d) (.n t) (.n t) = .n d := by
      have : Key.beq (.n t) (.n d) = false := zB fun e => by injection e with e; exact hne e.symm
      simp [swp,this,zD]
     simp [this,one,zD,two,renO,scrPO]
    rw [ek κ h1 h2]
    simp only [one,two,zB h1,zB h2,cond_false]
    cases ho : H κ with
    |none => rfl
    |some ob =>
     have g1 := hon.obj κ ob ho
     have g2 := hno.obj κ ob ho
     simp only [Option.map_some,renO_id2 ob g1 g2]
     show some (scrPO (isK (.n d)) ob) = some ob
     rw [lE ob fun o' ho' hm => g1 (by rw [hq o' ho'] at hm; exact hm)]
 intro A w0 m a w h
 have hS := h.sw (.n d) (.n t) (fun k hk hs => by
  have e1 : swp (.n d) (.n t) (.l k) = .l k := rfl
  show some (m (swp (.n d) (.n t) (.l k))) = A.pin k
  simp only [swH,e1] at hs
  rw [e1]
  exact h.pin k hk (fun hh => hs (by rw [hh]; rfl)))
 have hS1 : SRel E N A w0 (wA (swM (.n d) (.n t) m) (.n d) none) (((put (some t) (.ref (.n d) 0 n) (put (some d) .junk (over (one (.n d) (.ds e sz els)) s))).swap (.n d) (.n t)).new (.n d) (.ds e sz [])) a w := by
  generalize (put (some t) (.ref (.n d) 0 n) (put (some d) .junk (over (one (.n d) (.ds e sz els)) s))).swap (.n d) (.n t) = s1 at hS
  generalize swM (.n d) (.n t) m = m at hS ⊢
  refine hS.change (.n d) (fun i => rfl) (fun o hne => ?_) (fun o hne => yW m _ hne) hS.below (fun Z b hb => ⟨⟨hb.1,fun o ho p hp => ?_,hb.2.2⟩,rfl⟩) (fun _ _ _ _ _ => rfl) (fun ob hob => ?_) (fun _ o hne ho p p' hp hp' => ?_) (fun n hn => (by cases hn))
  ·simp [St.new,St.setH,St.kill,zB hne]
  ·by_cases hne : o = .n d
   ·subst hne; rw [zI] at hp; cases hp
   ·rw [yW m _ hne] at hp
    refine hb.2.1 o (fun hh => ho ?_) p hp
    simp [St.new,St.setH,St.kill,zB hne,hh]
  ·have : ob = .ds e sz [] := by simp [St.new,St.setH,zD,scrPO] at hob; exact hob.symm
   subst this; exact .inl ⟨zI _ _ _,rfl⟩
  ·rw [zI] at hp; cases hp
 rw [e2] at hS1
 exact ⟨_,hS1⟩
theorem e9 {c : Call} {k : KE} (hc : c.callee = .builtin .append) (h : aEX E N (.call c) dst s k) : ∃ v O wr fr vk,k wr fr vk (eff v O (wG (.call c)) dst s) ∧ Pkc E N (.call c) dst s v O wr fr vk := by
 obtain ⟨cal,args,argT⟩ := c
 simp only at hc
 subst hc
 simp only [aEX] at h
 split at h
 ·rename_i T T' d2 yo hT hargs
  have hjk : wG (.call ⟨.builtin .append,args,argT⟩) = some d2 := by simp only [wG,hargs]
  cases hb : (Nat.beq T T' && Nat.blt d2 N) with
  |false => rw [hb] at h; exact h.elim
  |true =>
   rw [hb] at h
   simp only [cond_true] at h
   simp only [Bool.and_eq_true] at hb
   split at h
   ·rename_i ti t hti
    split at h
    ·rename_i e hd
     split at h
     ·rename_i ei news o n hei hnews hτ
      cases hb2 : (Nat.beq o d2 && !Nat.beq d2 t && mZ (.n o) (ev N s yo) && !memN (3 * d2) (zK (ev N s yo)) && !Nat.beq ei.sz 0) with
      |false => rw [hb2] at h; exact h.elim
      |true =>
       rw [hb2] at h
       simp only [cond_true] at h
       simp only [Bool.and_eq_true,Bool.not_eq_true'] at hb2
       obtain ⟨⟨⟨⟨e1,hdt⟩,hnr⟩,hmn⟩,hz⟩ := hb2
       have hne : d2 ≠ t := fun e => by rw [e,nbeq_self] at hdt; cases hdt
       have e1 : o = d2 := Nat.eq_of_beq_eq_true e1
       subst e1
       split at h
       ·rename_i e' sz els hO
        cases hb3 : (Nat.beq e e' && Nat.beq sz ei.sz) with
        |false => rw [hb3] at h; exact h.elim
        |true =>
         rw [hb3] at h
         simp only [cond_true] at h
         obtain ⟨hcond,hk⟩ := h
         have hev : ev N s (.tmp o) = .ref (.n o) 0 n := by simp only [ev,hb.2,cond_true,hτ]
         have hmem : (Operand.tmp o) ∈ (Op.call ⟨.builtin .append,args,argT⟩).operands ∧ yo ∈ (Op.call ⟨.builtin .append,args,argT⟩).operands := by
          have : args = #[.tmp o,yo] := by apply Array.ext'; exact hargs
          subst this
          simp [Op.operands,Call.operands]
         have htwo : ∀ κ ob',two (.n t) (.n o) (.ds e sz (els.take n ++ news)) (.ds e sz []) κ = some ob' → ∀ c,c ∉ yM ob' := fun κ ob' ho c hm => by
          simp only [two] at ho
          cases h1 : Key.beq κ (.n t) with
          |true => rw [h1] at ho; injection ho with ho; subst ho; simp [yM] at hm
          |false =>
           rw [h1] at ho
           cases h2 : Key.beq κ (.n o) with
           |true => rw [h2] at ho; injection ho with ho; subst ho; simp [yM] at hm
           |false => rw [h2] at ho; cases ho
         have htk : ∀ κ,two (.n t) (.n o) (.ds e sz (els.take n ++ news)) (.ds e sz []) κ ≠ none → κ = .n t ∨ κ = .n o := fun κ hκ => by
          simp only [two] at hκ
          cases h1 : Key.beq κ (.n t) with
          |true => exact .inl (yJ h1)
          |false =>
           rw [h1] at hκ
           cases h2 : Key.beq κ (.n o) with
           |true => exact .inr (yJ h2)
           |false => rw [h2] at hκ; exact absurd rfl hκ
         refine ⟨_,_,_,_,_,by rw [hjk]; exact hk,fun κ hκ => by rcases htk κ hκ with e | e <;> rw [e] <;> simp [cls],fun s' hA hfr hjs => ?_⟩
         rw [hjk]
         have hon := hjs o hjk
         have hτ' : s'.τ o = .ref (.n o) 0 n := by
          have := hA.1 _ hmem.1
          rw [hev] at this
          simpa only [ev,hb.2,cond_true] using this
         have hO' : s'.H (.n o) = some (.ds e' sz els) := (hA.2 _ (wT hmem.1 (by rw [hev]; simp [zK]))).trans hO
         have hy : ev N s' yo = ev N s yo := hA.1 _ hmem.2
         have hnews' : xR s' (ev N s yo) = some news := (sN fun κ hκ => hA.2 κ (wT hmem.2 hκ)).trans hnews
         refine ⟨fun K hK => ?_,fun c hc hn => ?_,fun c d hc hn => ?_,fun d hdd hn => ?_⟩
         ·have hevs : evs N s' args = [.ref (.n o) 0 n,ev N s yo] := by
           have : args = #[.tmp o,yo] := by apply Array.ext'; exact hargs
           subst this
           have h1 : ev N s' (.tmp o) = .ref (.n o) 0 n := by simp only [ev,hb.2,cond_true,hτ']
           simp [evs,h1,hy]
          have hTT : T = T' := Nat.eq_of_beq_eq_true hb.1
          subst hTT
          have hno : NoK (3 * t) s' := hfr _ (by simp)
          refine ⟨fun s1 => s1 = put (some t) (.ref (.n o) 0 (n + news.length)) ((s'.kill (.n o)).setH (.n o) (.ds e sz (els.take n ++ news))),?_,fun s1 h1 => ?_⟩
          ·simp only [AOp,fE,hT,hevs,hb.1,cond_true]
           have happ : fA E T (.ref (.n o) 0 n) (ev N s yo) (some t) s' (fun s1 => s1 = put (some t) (.ref (.n o) 0 (n + news.length)) ((s'.kill (.n o)).setH (.n o) (.ds e sz (els.take n ++ news)))) := by
            simp only [fA,hti,hd,hei,hnews',hz,cond_false,hnr,cond_true,hO',hb3]
            exact ⟨hcond,trivial⟩
           have hnd : ∀ q m,ev N s yo ≠ .dref q m := by
            intro q m he
            rw [he] at hnews
            simp [xR] at hnews
           generalize ev N s yo = y at happ hnd
           cases y <;> first | exact happ | exact absurd rfl (hnd _ _)
          ·subst h1
           rw [eC hon hτ']
           exact ⟨_,weak_chain hne hno hon,hK⟩
         ·have hct : c ≠ 3 * o ∧ c ≠ 3 * t := by simpa using hc
          refine NoK.put (NoK.put (hn.over (fun κ hκ => by rcases htk κ hκ with e | e <;> rw [e] <;> simp only [cls]; exact fun e => hct.2 e.symm; exact fun e => hct.1 e.symm) (fun κ ob' ho => htwo κ ob' ho c)) _ fun _ _ => by simp [zK]) _ fun _ _ => by simp [zK,cls]; exact hct.2
         ·have hct : c ≠ 3 * t := by simp at hc; exact hc.2
          exact Only.put (Only.put (hn.over fun κ ob' ho => htwo κ ob' ho c) _ fun _ _ _ => by simp [zK]) _ fun _ _ _ => by simp [zK,cls]; exact hct
         ·exact Only.put (Only.put (hn.over fun κ ob' ho => htwo κ ob' ho _) _ fun _ _ _ => by simp [zK]) _ fun e he hne => absurd (by rw [hdd] at he; injection he with he; exact he.symm) hne
       ·exact h.elim
     ·exact h.elim
    ·exact h.elim
   ·exact h.elim
 ·exact h.elim
theorem n7 : ∀ (cs : List AV) (xs : List D) (s s' : St),fzk s cs = some (xs,[]) → fzk s' cs = some (xs,[])
 | [],xs,s,s',h => h
 |c :: cs,xs,s,s',h => by
  simp only [fzk] at h ⊢
  cases hr : fzk s cs with
  |none => rw [hr] at h; cases h
  |some p =>
   obtain ⟨ys,ks⟩ := p
   rw [hr] at h
   simp only at h
   cases c <;> simp only at h
   case d x =>
    simp only [Option.some.injEq,Prod.mk.injEq] at h
    obtain ⟨h1,h2⟩ := h
    subst h2
    rw [n7 cs ys s s' hr]
    simp [h1]
   case ref o off n =>
    cases hq : fz1 s (.ref o off n) with
    |none => rw [hq] at h; cases h
    |some x => rw [hq] at h; simp at h
   all_goals cases h
theorem nH : ∀ (els : List (List AV)) (xs : List (List D)) (s s' : St),fF s els = some (xs,[]) → fF s' els = some (xs,[])
 | [],xs,s,s',h => h
 |v :: vs,xs,s,s',h => by
  simp only [fF] at h ⊢
  cases h1 : fzk s v with
  |none => rw [h1] at h; cases h
  |some p =>
   cases h2 : fF s vs with
   |none => rw [h1,h2] at h; cases h
   |some q =>
    obtain ⟨x,k1⟩ := p
    obtain ⟨ys,k2⟩ := q
    rw [h1,h2] at h
    simp only [Option.some.injEq,Prod.mk.injEq,List.append_eq_nil_iff] at h
    obtain ⟨h3,h4,h5⟩ := h
    subst h4; subst h5
    rw [n7 v x s s' h1,nH vs ys s s' h2]
    simp [h3]
theorem pairs_c {T : TypeId} {ps : Array (Nat × Operand)} (h : ∀ x ∈ (ps.toList.map (·.2)).toArray,ev N s' x = ev N s x) : (ps.toList.map fun p => (p.1,ev N s' p.2)) = (ps.toList.map fun p => (p.1,ev N s p.2)) :=
 List.map_congr_left fun p hp => by rw [h p.2 (by simp; exact ⟨p.1,by simpa using hp⟩)]
theorem evs_c {xs : Array Operand} (h : ∀ x ∈ xs,ev N s' x = ev N s x) : evs N s' xs = evs N s xs :=
 List.map_congr_left fun x hx => h x (by simpa using hx)
theorem opt_c {x : Option Operand} (h : ∀ y,x = some y → ev N s' y = ev N s y) : x.map (ev N s') = x.map (ev N s) := by
 cases x with
 |none => rfl
 |some y => simp [h y rfl]
theorem aE_inv {op : Op} {k : KE} (h : aE E N op dst s k) : ∃ v O wr fr vk,k wr fr vk (eff v O (wG op) dst s) ∧ Pkc E N op dst s v O wr fr vk := by
 cases op <;> simp only [aE] at h <;> try exact h.elim
 case move x =>
  rw [yT] at h
  exact qX rfl h fun s' hA K hK => by simp only [AOp,yT]; rw [hA.1 x (by simp [Op.operands])]; exact hK
 case assign x =>
  rw [yT] at h
  exact qX rfl h fun s' hA K hK => by simp only [AOp,yT]; rw [hA.1 x (by simp [Op.operands])]; exact hK
 case pick c x y =>
  split at h
  ·rename_i b hb
   cases b with
   |true =>
    simp only [yT] at h
    exact qX rfl h fun s' hA K hK => by
     simp only [AOp,yT]
     rw [hA.1 c (by simp [Op.operands]),hb]
     simp only
     rw [hA.1 x (by simp [Op.operands])]; exact hK
   |false =>
    simp only [yT] at h
    exact qX rfl h fun s' hA K hK => by
     simp only [AOp,yT]
     rw [hA.1 c (by simp [Op.operands]),hb]
     simp only
     rw [hA.1 y (by simp [Op.operands])]; exact hK
  ·exact h.elim
 case load T x => exact wB rfl _ _ (lh_load T (ev N s x) s) (fun c hc => wT (by simp [Op.operands]) hc) h fun s' hA K hG => by simp only [AOp]; rw [hA.1 x (by simp [Op.operands])]; exact hG
 case binOp o T x y T' => exact wB rfl _ _ (lh_bin T o (ev N s x) (ev N s y) s) (by simp) h fun s' hA K hG => by simp only [AOp]; rw [hA.1 x (by simp [Op.operands]),hA.1 y (by simp [Op.operands])]; exact aBinN_of hG
 case unOp o T x => exact wB rfl _ _ (lh_un o (ev N s x) s) (by simp) h fun s' hA K hG => by simp only [AOp]; rw [hA.1 x (by simp [Op.operands])]; exact hG
 case convert S T x => exact wB rfl _ _ (lh_conv S T (ev N s x) s) (fun c hc => wT (by simp [Op.operands]) hc) h fun s' hA K hG => by simp only [AOp]; rw [hA.1 x (by simp [Op.operands])]; exact hG
 case slice T x lo hi mx =>
  exact wB rfl _ _ (lh_slice T (ev N s x) _ _ _ s) (fun c hc => wT (by simp [Op.operands]) hc) h fun s' hA K hG => by
   simp only [AOp]
   rw [hA.1 x (by simp [Op.operands]),opt_c (x := lo) fun y hy => hA.1 y (by simp [Op.operands,hy]),opt_c (x := hi) fun y hy => hA.1 y (by simp [Op.operands,hy]),opt_c (x := mx) fun y hy => hA.1 y (by simp [Op.operands,hy])]
   exact hG
 case fieldAddr T x f => exact wB rfl _ _ (lh_field T f (ev N s x) s) (by simp) h fun s' hA K hG => by simp only [AOp]; rw [hA.1 x (by simp [Op.operands])]; exact hG
 case field T x f => exact wB rfl _ _ (lh_part T f (ev N s x) s) (by simp) h fun s' hA K hG => by simp only [AOp]; rw [hA.1 x (by simp [Op.operands])]; exact hG
 case indexAddr T x i => exact wB rfl _ _ (lh_idxAddr T (ev N s x) (ev N s i) s) (fun c hc => wT (by simp [Op.operands]) hc) h fun s' hA K hG => by simp only [AOp]; rw [hA.1 x (by simp [Op.operands]),hA.1 i (by simp [Op.operands])]; exact hG
 case index T x i => exact wB rfl _ _ (lh_idx T (ev N s x) (ev N s i) s) (by simp) h fun s' hA K hG => by simp only [AOp]; rw [hA.1 x (by simp [Op.operands]),hA.1 i (by simp [Op.operands])]; exact hG
 case lookup T x i ok => exact wB rfl _ _ (lh_lookup T (ev N s x) (ev N s i) ok s) (fun c hc => wT (by simp [Op.operands]) hc) h fun s' hA K hG => by simp only [AOp]; rw [hA.1 x (by simp [Op.operands]),hA.1 i (by simp [Op.operands])]; exact hG
 case build T parts =>
  exact wB rfl _ _ (lh_build T _ s) (by simp) h fun s' hA K hG => by
   simp only [AOp]
   rw [pairs_c (T := T) (s := s) (s' := s') (ps := parts) fun x hx => hA.1 x hx]; exact hG
 case nilCheck x =>
  split at h <;> first | exact h.elim | skip
  all_goals
   rename_i hb
   first
    |exact qX rfl h fun s' hA K hK => by simp only [AOp]; rw [hA.1 x (by simp [Op.operands]),hb]; exact hK
    |exact qX (v := .fp _) rfl h fun s' hA K hK => by simp only [AOp]; rw [hA.1 x (by simp [Op.operands]),hb]; exact hK
 case extract x i =>
  split at h
  ·rename_i vs hb
   split at h
   ·rename_i v hv
    rw [yT] at h
    exact qX rfl h fun s' hA K hK => by simp only [AOp]; rw [hA.1 x (by simp [Op.operands]),hb]; simp only [hv,yT]; exact hK
   ·exact h.elim
  ·exact h.elim
 case alloc T =>
  split at h
  ·rename_i ti t hti
   have hz : ∀ l : List D,yF (l.map AV.d) = [] := fun l => by induction l with | nil => rfl | cons x xs ih => simp [yF,zK,ih]
   exact bW rfl h (fun c hc => by simpa [zK,cls] using hc) (by simp) (fun c hc => by simp [yM,hz] at hc) fun s' hA K hK => by simp only [AOp,hti]; exact hK
  ·exact h.elim
 case makeSlice T l c =>
  split at h
  ·rename_i ti t k1 n k2 cap hti hl hc
   split at h
   ·rename_i e hd
    split at h
    ·rename_i ei hei
     cases hz : Nat.beq ei.sz 0 with
     |true => rw [hz] at h; exact h.elim
     |false =>
      rw [hz] at h
      simp only [cond_false] at h
      exact bW rfl h.2 (fun c hc => by simpa [zK,cls] using hc) (by simp) (fun c hc => by simp [yM] at hc) fun s' hA K hK => by
       simp only [AOp,aMake]
       rw [hA.1 l (by simp [Op.operands]),hA.1 c (by simp [Op.operands]),hl,hc]
       simp only [hti,hd,hei,hz,cond_false]
       exact ⟨h.1,hK⟩
    ·exact h.elim
   ·exact h.elim
  ·exact h.elim
 case buildSlice T len parts =>
  split at h
  ·rename_i ti t hti
   split at h
   ·rename_i e hd
    split at h
    ·rename_i ei hei
     cases hz : (Nat.beq ei.sz 0 || Nat.blt 4096 (len * ei.sz)) with
     |true => rw [hz] at h; exact h.elim
     |false =>
      rw [hz] at h
      simp only [cond_false] at h
      split at h
      ·rename_i els hels
       have hpc : ∀ s',qO N (.buildSlice T len parts) s s' → (parts.toList.map fun p => (p.1,ev N s' p.2)) = (parts.toList.map fun p => (p.1,ev N s p.2)) := fun s' hA => pairs_c (T := T) fun x hx => hA.1 x hx
       split at h
       ·rename_i xs hks
        exact bW rfl h (fun c hc => by simpa [zK,cls] using hc) (by simp) (fun c hc => by simp [yM] at hc) fun s' hA K hK => by
         simp only [AOp,qN]
         rw [hpc s' hA]
         simp only [hti,hd,hei,hz,cond_false,hels,nH els xs s s' hks]
         exact hK
       ·rename_i hnk
        cases hoc : els.all (fun c => c.all fun v => yO v && !memN (3 * t) (zK v)) with
        |false => rw [hoc] at h; exact h.elim
        |true =>
         rw [hoc] at h
         simp only [cond_true] at h
         have hok : els.all (fun c => c.all yO) = true := by
          simp only [List.all_eq_true,Bool.and_eq_true] at hoc ⊢
          exact fun c hc v hv => (hoc c hc v hv).1
         refine bW rfl h (fun c hc => by simp [zK,cls] at hc; simp [hc]) (by simp) (fun c hc => ?_) fun s' hA K hK => ?_
         ·simp only [yM,List.mem_flatMap] at hc
          obtain ⟨r,hr,hcr⟩ := hc
          refine ⟨List.mem_cons_of_mem _ (List.mem_flatMap.2 ⟨r,hr,hcr⟩),fun e => ?_⟩
          subst e
          obtain ⟨v,hv,hcv⟩ := xA.1 hcr
          simp only [List.all_eq_true,Bool.and_eq_true] at hoc
          have := (hoc r hr v hv).2
          rw [lP hcv] at this; cases this
         ·simp only [AOp,qN]
          rw [hpc s' hA]
          simp only [hti,hd,hei,hz,cond_false,hels]
          split
          ·rename_i xs hks
           exact absurd (nH els xs s' s hks) (hnk xs)
          ·exact .inr (by rw [hok]; exact hK)
          ·rw [hok]; exact hK
      ·exact h.elim
    ·exact h.elim
   ·exact h.elim
  ·exact h.elim
 case store T ad x =>
  split at h
  ·exact store_inv h
  ·exact h.elim
 case call c =>
  obtain ⟨cal,args,argT⟩ := c
  cases cal with
  |invoke r nm => exact h.elim
  |builtin b =>
   by_cases hbb : b = .append
   ·subst hbb
    exact append_inv rfl (by simpa only [aE] using h)
   have hj : wG (.call ⟨.builtin b,args,argT⟩) = none := by cases b <;> first | rfl | exact absurd rfl hbb
   replace h : aEb E b argT.toList (evs N s args) dst s k := by cases b <;> first | exact h | exact absurd rfl hbb
   unfold aEb at h
   have hev : ∀ s',qO N (.call ⟨.builtin b,args,argT⟩) s s' → evs N s' args = evs N s args := fun s' hA => evs_c fun x hx => hA.1 x (by simpa [Op.operands,Call.operands] using hx)
   split at h
   ·rename_i T TT x hT hx
    exact wB hj _ _ (lh_len T x s) (by simp) h fun s' hA K hG => by simp only [AOp,fE]; rw [hev s' hA,hT,hx]; exact hG
   ·rename_i Ts k1 p k2 q hx
    exact qX (v := .d _) rfl h fun s' hA K hK => by simp only [AOp,fE]; rw [hev s' hA,hx]; exact hK
   ·rename_i Ts k1 p k2 q hx
    exact qX (v := .d _) rfl h fun s' hA K hK => by simp only [AOp,fE]; rw [hev s' hA,hx]; exact hK
   ·exact h.elim
  |value f =>
   simp only at h
   split at h
   ·rename_i g caps hf
    cases hnp : ((evs N s args).all sK && caps.all (fun c => !fU c)) with
    |false => rw [hnp] at h; exact h.elim
    |true =>
     rw [hnp] at h
     simp only [cond_true] at h
     simp only [Bool.and_eq_true] at hnp
     split at h
     ·rename_i as1 cs has hcs
      have hop : ∀ s',qO N (.call ⟨.value f,args,argT⟩) s s' → evs N s' args = evs N s args ∧ ev N s' f = ev N s f ∧ fzs s' (evs N s args) = some as1 ∧ fV s' caps = some cs := by
       intro s' hA
       refine ⟨evs_c fun x hx => hA.1 x (by simp [Op.operands,Call.operands,hx]),hA.1 f (by simp [Op.operands,Call.operands]),?_,?_⟩
       ·rw [fzs_c hnp.1 fun κ hk => hA.2 κ ?_,has]
        obtain ⟨v,hv,hc⟩ := xA.1 hk
        obtain ⟨x,hx,rfl⟩ := List.mem_map.1 hv
        exact wT (by simp [Op.operands,Call.operands]; right; simpa using hx) hc
       ·rw [fzps_c hnp.2 fun κ hk => hA.2 κ ?_,hcs]
        refine wT (x := f) (by simp [Op.operands,Call.operands]) ?_
        rw [hf]; simpa [zK] using hk
      cases hB : (yD (evs N s args) || yD caps) with
      |true =>
       rw [hB] at h
       simp only [cond_true] at h
       obtain ⟨r,h1,h2,h3⟩ := h
       obtain ⟨v,O,wr,fr,vk,g1,g2⟩ := ret_inv (N := N) (E := E) (op := .call ⟨.value f,args,argT⟩) rfl h3
       refine ⟨v,O,wr,fr,vk,g1,g2 fun s' hA hfr K hK => ?_⟩
       obtain ⟨e1,e2,e3,e4⟩ := hop s' hA
       simp only [AOp,fE]
       rw [e1,e2,hf]
       simp only [e3,e4,hB,cond_true]
       exact .inl ⟨_,h1,fun r' hr => by subst hr; exact ⟨h2,hK⟩⟩
      |false =>
       rw [hB] at h
       simp only [cond_false] at h
       obtain ⟨r,h1,h3⟩ := h
       obtain ⟨v,O,wr,fr,vk,g1,g2⟩ := ret_inv (N := N) (E := E) (op := .call ⟨.value f,args,argT⟩) rfl h3
       refine ⟨v,O,wr,fr,vk,g1,g2 fun s' hA hfr K hK => ?_⟩
       obtain ⟨e1,e2,e3,e4⟩ := hop s' hA
       simp only [AOp,fE]
       rw [e1,e2,hf]
       simp only [e3,e4,hB,cond_false]
       exact ⟨_,h1,fun r' hr => by subst hr; exact hK⟩
     ·exact h.elim
   ·exact h.elim
end
end Ai
end
section
namespace Ai
open Go Go.RowKit
section
variable {E : Env} {N : Nat} {A : Fr} {w0 w w' : World} {m m' : Own} {s s' : St} {a : Act} {dst : Option Tmp} {ops : Array Oper} {rs : List Rec}
def uJ (rs : List Rec) (i : Nat) : Option Tmp := (rs[i]?).bind (·.jk)
def jR (o : Oper) (rs : List Rec) (i : Nat) (v : AV) (O : Key → Option Ob) (s : St) : St := eff v O (uJ rs i) o.dst s
def PkN (E : Env) (N : Nat) (ops : Array Oper) (rs : List Rec) (i : Nat) (o : Oper) (s : St) (v : AV) (O : Key → Option Ob) : Prop :=
 (wants N ops o.guard s = some true ∧ ∃ r,rs[i]? = some r ∧ r.jk = wG o.op ∧ (∀ c ∈ yF (evs N s o.op.operands),c ∈ r.rd) ∧ Pkc E N o.op o.dst s v O r.wr r.fr r.vk) ∨
 (wants N ops o.guard s = some false ∧ v = xJ ∧ (O = fun _ => none) ∧ ∃ r,rs[i]? = some r ∧ r.jk = none)
def cG (rs : List Rec) (listed : Array Bool) (s : St) : Prop := ∀ i r,rs[i]? = some r → listed.getD i false = false → (∀ c ∈ r.fr,NoK c s) ∧ ∀ d,r.jk = some d → Only (3 * d) d s
def AAnyE (E : Env) (N : Nat) (ops : Array Oper) (rs : List Rec) (p : Nat) (K : Array Bool → St → Prop) : Nat → Array Bool → St → Prop
 | 0,listed,s => K listed s
 |fuel + 1,listed,s => Region.ready .any ops listed ≠ [] ∧ ∀ i ∈ Region.ready .any ops listed,i < p ∧ ∃ o v O,ops[i]? = some o ∧ PkN E N ops rs i o s v O ∧
   AAnyE E N ops rs p K fuel (listed.setIfInBounds i true) (jR o rs i v O s)
theorem PkN.dom {i : Nat} {o : Oper} {v : AV} {O : Key → Option Ob} (h : PkN E N ops rs i o s v O) {r : Rec} (hr : rs[i]? = some r) (κ : Key) (hk : O κ ≠ none) : cls κ ∈ r.wr := by
 rcases h with ⟨_,r',h1,_,_,h2⟩ | ⟨_,_,rfl,_⟩
 ·rw [hr] at h1; injection h1 with h1; subst h1
  exact h2.1 κ hk
 ·exact absurd rfl hk
theorem PkN.move {i : Nat} {o : Oper} {v : AV} {O : Key → Option Ob} (h : PkN E N ops rs i o s v O) (hw : wants N ops o.guard s' = wants N ops o.guard s) (hev : ∀ x ∈ o.op.operands,ev N s' x = ev N s x)
  (hH : ∀ r,rs[i]? = some r → ∀ κ,cls κ ∈ r.rd → s'.H κ = s.H κ) : PkN E N ops rs i o s' v O := by
 rcases h with ⟨h1,r,h2,hj,h3,h4⟩ | ⟨h1,h2,h3,h4⟩
 ·have he : evs N s' o.op.operands = evs N s o.op.operands := evs_c hev
  refine .inl ⟨hw.trans h1,r,h2,hj,by rw [he]; exact h3,h4.1,fun s2 hA hf ho => h4.2 s2 ⟨fun x hx => (hA.1 x hx).trans (hev x hx),fun κ hk => ?_⟩ hf ho⟩
  rw [hA.2 κ (by rw [he]; exact hk),hH r h2 κ (h3 _ hk)]
 ·exact .inr ⟨hw.trans h1,h2,h3,h4⟩
theorem ev_eff {O : Key → Option Ob} {v : AV} {d2 : Option Tmp} {x : Operand} (h : ∀ d,dst = some d → x ≠ .tmp d) (h2 : ∀ d,d2 = some d → x ≠ .tmp d) : ev N (eff v O d2 dst s) x = ev N s x := by
 unfold eff
 rw [oY h,oY h2]
 cases x <;> rfl
theorem aD (o : Oper) {O : Key → Option Ob} {v : AV} {d2 : Option Tmp} (h : ∀ d,dst = some d → d ∉ o.looksAt ops) (h2 : ∀ d,d2 = some d → d ∉ o.looksAt ops) : wants N ops o.guard (eff v O d2 dst s) = wants N ops o.guard s := by
 unfold eff
 rw [bJ o _ dst v h,bJ o _ d2 .junk h2]
 unfold wants
 cases o.guard with
 |none => rfl
 |some p =>
  obtain ⟨j,b⟩ := p
  simp only
  cases ops[j]? with
  |none => rfl
  |some oj =>
   simp only
   cases oj.dst <;> rfl
theorem eff_H (v : AV) (O : Key → Option Ob) (d2 dst : Option Tmp) (s : St) (κ : Key) (h : O κ = none) : (eff v O d2 dst s).H κ = s.H κ := by
 unfold eff
 rw [aQ,aQ]
 show (match O κ with | some ob => some ob | none => s.H κ) = s.H κ
 rw [h]
theorem lQ {o : Oper} {x : Operand} (hx : x ∈ o.op.operands) {d : Tmp} (h : d ∉ o.looksAt ops) : x ≠ .tmp d := fun e => h (by
 subst e
 exact List.mem_append_left _ (List.mem_filterMap.2 ⟨.tmp d,by simpa using hx,rfl⟩))
theorem PkN.past {i : Nat} {o : Oper} {v u : AV} {O U : Key → Option Ob} {d2 : Option Tmp} (h : PkN E N ops rs i o s v O) (hd : ∀ d,dst = some d → d ∉ o.looksAt ops) (hd2 : ∀ d,d2 = some d → d ∉ o.looksAt ops)
  (hU : ∀ r,rs[i]? = some r → ∀ κ,cls κ ∈ r.rd → U κ = none) : PkN E N ops rs i o (eff u U d2 dst s) v O :=
 h.move (aD o hd hd2) (fun x hx => ev_eff (fun d e => lQ hx (hd d e)) fun d e => lQ hx (hd2 d e)) fun r hr κ hk => eff_H _ _ _ _ _ _ (hU r hr κ hk)
theorem PkN.back {i : Nat} {o : Oper} {v u : AV} {O U : Key → Option Ob} {d2 : Option Tmp} (h : PkN E N ops rs i o (eff u U d2 dst s) v O) (hd : ∀ d,dst = some d → d ∉ o.looksAt ops) (hd2 : ∀ d,d2 = some d → d ∉ o.looksAt ops)
  (hU : ∀ r,rs[i]? = some r → ∀ κ,cls κ ∈ r.rd → U κ = none) : PkN E N ops rs i o s v O :=
 h.move (aD o hd hd2).symm (fun x hx => (ev_eff (fun d e => lQ hx (hd d e)) fun d e => lQ hx (hd2 d e)).symm) fun r hr κ hk => (eff_H _ _ _ _ _ _ (hU r hr κ hk)).symm
theorem PkN.clean {i : Nat} {o : Oper} {v : AV} {O : Key → Option Ob} (h : PkN E N ops rs i o s v O) (hcl : ∀ r,rs[i]? = some r → (∀ c ∈ r.fr,NoK c s) ∧ ∀ d,r.jk = some d → Only (3 * d) d s) {c : Nat} (hc : ∀ r,rs[i]? = some r → c ∉ r.vk) (hn : NoK c s) : NoK c (jR o rs i v O s) := by
 rcases h with ⟨_,r,h2,hj,_,h4⟩ | ⟨_,rfl,rfl,r,h2,hj⟩
 ·have e : uJ rs i = wG o.op := by simp only [uJ,h2,Option.bind_some,hj]
  unfold jR; rw [e]
  exact ((h4.2 s ⟨fun _ _ => rfl,fun _ _ => rfl⟩ (hcl r h2).1 fun d hd => (hcl r h2).2 d (hj.trans hd)).2.1 c (hc r h2) hn)
 ·have e : uJ rs i = none := by simp only [uJ,h2,Option.bind_some,hj]
  unfold jR; rw [e]
  exact hn.put _ fun _ _ => by simp [xJ,zK,yF]
theorem PkN.only {i : Nat} {o : Oper} {v : AV} {O : Key → Option Ob} (h : PkN E N ops rs i o s v O) (hcl : ∀ r,rs[i]? = some r → (∀ c ∈ r.fr,NoK c s) ∧ ∀ d,r.jk = some d → Only (3 * d) d s) {d : Tmp} (hc : ∀ r,rs[i]? = some r → o.dst = some d ∨ 3 * d ∉ r.vk) (hn : Only (3 * d) d s) : Only (3 * d) d (jR o rs i v O s) := by
 rcases h with ⟨_,r,h2,hj,_,h4⟩ | ⟨_,rfl,rfl,r,h2,hj⟩
 ·have e : uJ rs i = wG o.op := by simp only [uJ,h2,Option.bind_some,hj]
  unfold jR; rw [e]
  have := (h4.2 s ⟨fun _ _ => rfl,fun _ _ => rfl⟩ (hcl r h2).1 fun d hd => (hcl r h2).2 d (hj.trans hd)).2.2
  rcases hc r h2 with hd | hd
  ·exact this.2 d hd hn
  ·exact this.1 _ d hd hn
 ·have e : uJ rs i = none := by simp only [uJ,h2,Option.bind_some,hj]
  unfold jR; rw [e]
  exact hn.put _ fun _ _ _ => by simp [xJ,zK,yF]
structure Confs (ops : Array Oper) (rs : List Rec) (p : Nat) : Prop where
 len : rs.length = p
 le : p ≤ ops.size
 pair : ∀ i j,i < p → j < p → i ≠ j → confP ops rs i j = true
 ready : ∀ k,k < ops.size → k ∈ Region.ready .any ops (fK ops.size k)
 alone : ∀ k,p ≤ k → k < ops.size → Region.ready .any ops (fK ops.size k) = [k] ∨ j9 ops k = true
 anc : ∀ k,p ≤ k → k < ops.size → ∀ i,i < p → bE ops i ops.size k = true
theorem gU {i j : Nat} {oi oj : Oper} {ri rj : Rec} (h : confP ops rs i j = true) (h1 : ops[i]? = some oi) (h2 : ops[j]? = some oj) (h3 : rs[i]? = some ri) (h4 : rs[j]? = some rj) :
  (bE ops i ops.size j = false → bE ops j ops.size i = false → oi.apart ops oj = true ∧ oj.apart ops oi = true ∧ (∀ c ∈ ri.wr,c ∉ rj.rd) ∧ (∀ c ∈ ri.wr,c ∉ rj.wr) ∧ (∀ c ∈ rj.wr,c ∉ ri.rd) ∧
   (∀ d,ri.jk = some d → d ∉ oj.looksAt ops ∧ oj.dst ≠ some d ∧ rj.jk ≠ some d) ∧ (∀ d,rj.jk = some d → d ∉ oi.looksAt ops ∧ oi.dst ≠ some d ∧ ri.jk ≠ some d)) ∧
  (bE ops i ops.size j = false → (∀ c ∈ ri.fr,c ∉ rj.vk) ∧ ∀ d,ri.jk = some d → oj.dst = some d ∨ 3 * d ∉ rj.vk) := by
 have jk : ∀ (a b : Oper) (x y : Rec),jkOK a b ops x y = true → ∀ d,x.jk = some d → d ∉ b.looksAt ops ∧ b.dst ≠ some d ∧ y.jk ≠ some d := by
  intro a b x y hh d hd
  simp only [jkOK,hd,Bool.and_eq_true,Bool.not_eq_true',bne_iff_ne,ne_eq] at hh
  obtain ⟨⟨g1,g2⟩,g3⟩ := hh
  exact ⟨fun hm => by simp at g1; exact g1 hm,g2,g3⟩
 unfold confP at h
 simp only [h1,h2,h3,h4,Bool.and_eq_true,Bool.or_eq_true] at h
 obtain ⟨ha,hb⟩ := h
 constructor
 ·intro g1 g2
  rw [g1,g2] at ha
  simp only [Bool.false_eq_true,false_or] at ha
  obtain ⟨⟨⟨⟨⟨⟨a1,a2⟩,a3⟩,a4⟩,a5⟩,a6⟩,a7⟩ := ha
  exact ⟨a1,a2,gC a3,gC a4,gC a5,jk _ _ _ _ a6,jk _ _ _ _ a7⟩
 ·intro g1
  rw [g1] at hb
  simp only [Bool.false_eq_true,false_or] at hb
  refine ⟨gC hb.1,fun d hd => ?_⟩
  have h2 := hb.2
  simp only [jkVk,hd,Bool.or_eq_true,beq_iff_eq,Bool.not_eq_true'] at h2
  rcases h2 with h2 | h2
  ·exact .inl h2
  ·exact .inr fun hm => by rw [lP hm] at h2; cases h2
theorem bS {listed : Array Bool} (hsz : listed.size = ops.size) (hd : DownC ops listed) {i j : Nat} (hi : i < ops.size) (hun : listed.getD i false = false) (hj : j ∈ Region.ready .any ops listed) : bE ops i ops.size j = false := by
 cases h : bE ops i ops.size j with
 |false => rfl
 |true =>
  obtain ⟨_,oj,hoj,hall⟩ := mem_ready.1 hj
  have := bD ops.size j hd h (fun o ho e he hb => by rw [hoj] at ho; injection ho with ho; subst ho; exact hall e he hb)
  rw [hun] at this; cases this
theorem kN {listed : Array Bool} (hsz : listed.size = ops.size) {i : Nat} (hi : i ∈ Region.ready .any ops listed) : i < ops.size ∧ listed.getD i false = false := by
 obtain ⟨h0,oi,hoi,_⟩ := mem_ready.1 hi
 have := (Array.getElem?_eq_some_iff.1 hoi).1
 exact ⟨this,by rw [gN (by omega)] at h0; exact h0⟩
theorem AAnyE_first {p : Nat} {K : Array Bool → St → Prop} (hC : Confs ops rs p) {i : Nat} {oi : Oper} (hi : ops[i]? = some oi) (hip : i < p) (hK : ∀ listed s,K listed s → listed = fK ops.size p) :
  ∀ (fuel : Nat) (listed : Array Bool) (s : St) (v : AV) (O : Key → Option Ob),listed.size = ops.size → DownC ops listed → cG rs listed s → i ∈ Region.ready .any ops listed → PkN E N ops rs i oi s v O →
   AAnyE E N ops rs p K fuel (listed.setIfInBounds i true) (jR oi rs i v O s) → AAnyE E N ops rs p K (fuel + 1) listed s := by
 intro fuel
 have his := (Array.getElem?_eq_some_iff.1 hi).1
 have hno : ∀ (listed : Array Bool),listed.size = ops.size → DownC ops listed → i ∈ Region.ready .any ops listed → ∀ j ∈ Region.ready .any ops listed,j < p := by
  intro listed hsz hd hr j hj
  rcases Nat.lt_or_ge j p with h | h
  ·exact h
  ·have := bS hsz hd his (kN hsz hr).2 hj
   rw [hC.anc j h (kN hsz hj).1 i hip] at this; cases this
 induction fuel with
 |zero =>
  intro listed s v O hsz hd hcl hr hy H
  refine ⟨fun h => (by rw [h] at hr; cases hr),fun j hj => ⟨hno listed hsz hd hr j hj,?_⟩⟩
  by_cases hji : j = i
  ·subst hji; exact ⟨oi,v,O,hi,hy,H⟩
  ·have h1 := hK _ _ H
   have hjp := hno listed hsz hd hr j hj
   obtain ⟨hjs,hjun⟩ := kN hsz hj
   have h2 : (listed.setIfInBounds i true).getD j false = true := by rw [h1,gR]; simp [hjp,hjs]
   rcases tC h2 with h3 | h3
   ·exact absurd h3.symm hji
   ·rw [h3] at hjun; cases hjun
 |succ fuel ih =>
  intro listed s v O hsz hd hcl hr hy H
  refine ⟨fun h => (by rw [h] at hr; cases hr),fun j hj => ⟨hno listed hsz hd hr j hj,?_⟩⟩
  by_cases hji : j = i
  ·subst hji; exact ⟨oi,v,O,hi,hy,H⟩
  ·have hjp := hno listed hsz hd hr j hj
   obtain ⟨_,oj,u,U,hoj,hpj,hrest⟩ := H.2 j (ready_mono hj hji)
   obtain ⟨hjs,hjun⟩ := kN hsz hj
   obtain ⟨_,hiun⟩ := kN hsz hr
   obtain ⟨ri,hri⟩ : ∃ r,rs[i]? = some r := ⟨_,List.getElem?_eq_getElem (by rw [hC.len]; exact hip)⟩
   obtain ⟨rj,hrj⟩ : ∃ r,rs[j]? = some r := ⟨_,List.getElem?_eq_getElem (by rw [hC.len]; exact hjp)⟩
   have nij := bS hsz hd his hiun hj
   have nji := bS hsz hd hjs hjun hr
   obtain ⟨a1,a2,a3,a4,a5,a6,a7⟩ := (gU (hC.pair i j hip hjp (Ne.symm hji)) hi hoj hri hrj).1 nij nji
   obtain ⟨b1,b2,b3⟩ := Oper.apart_spec a1
   obtain ⟨c1,c2,c3⟩ := Oper.apart_spec a2
   have hOj : ∀ r,rs[j]? = some r → ∀ κ,cls κ ∈ r.rd → O κ = none := fun r hr2 κ hk => by
    rw [hrj] at hr2; injection hr2 with hr2; subst hr2
    cases hq : O κ with
    |none => rfl
    |some ob => exact absurd hk (a3 _ (hy.dom hri κ (by simp [hq])))
   have hji2 : ∀ d,uJ rs i = some d → ri.jk = some d := fun d hd => by simpa [uJ,hri] using hd
   have hjj2 : ∀ d,uJ rs j = some d → rj.jk = some d := fun d hd => by simpa [uJ,hrj] using hd
   have hpj' : PkN E N ops rs j oj s u U := hpj.back b1 (fun d hd => (a6 d (hji2 d hd)).1) hOj
   have hUi : ∀ r,rs[i]? = some r → ∀ κ,cls κ ∈ r.rd → U κ = none := fun r hr2 κ hk => by
    rw [hri] at hr2; injection hr2 with hr2; subst hr2
    cases hq : U κ with
    |none => rfl
    |some ob => exact absurd hk (a5 _ (hpj.dom hrj κ (by simp [hq])))
   have hcl' : cG rs (listed.setIfInBounds j true) (jR oj rs j u U s) := by
    intro k r hrk hun
    have hkj : k ≠ j := fun e => by
     subst e
     have : k < listed.size := by omega
     simp [this] at hun
    have hun0 : listed.getD k false = false := by rw [getD_set_ne false (Ne.symm hkj)] at hun; exact hun
    have hkp : k < p := by rw [← hC.len]; exact (List.getElem?_eq_some_iff.1 hrk).1
    have hks : k < ops.size := Nat.lt_of_lt_of_le hkp hC.le
    have nkj := bS hsz hd hks hun0 hj
    have hcf := fun (r' : Rec) (hr' : rs[j]? = some r') => (gU (hC.pair k j hkp hjp hkj) (Array.getElem?_eq_getElem hks) hoj hrk hr').2 nkj
    exact ⟨fun c hc => hpj'.clean (fun r' hr' => hcl j r' hr' hjun) (fun r' hr' => (hcf r' hr').1 c hc) ((hcl k r hrk hun0).1 c hc),fun d hd => hpj'.only (fun r' hr' => hcl j r' hr' hjun) (fun r' hr' => (hcf r' hr').2 d hd) ((hcl k r hrk hun0).2 d hd)⟩
   refine ⟨oj,u,U,hoj,hpj',?_⟩
   refine ih (listed.setIfInBounds j true) _ v O (by simpa using hsz) (hd.step hj) hcl' (ready_mono hr (Ne.symm hji)) (hy.past c1 (fun d hd => (a7 d (hjj2 d hd)).1) hUi) ?_
   rw [Array.setIfInBounds_comm _ _ hji]
   have e : jR oi rs i v O (jR oj rs j u U s) = jR oj rs j u U (jR oi rs i v O s) := by
    unfold jR eff
    rw [← lK,← lK,← lK,← lK]
    rw [over_comm (O := O) (O' := U) fun κ hk => ?_]
    ·generalize over U (over O s) = z
     have p1 : ∀ (x : AV) (z : St),put (uJ rs i) .junk (put oj.dst x z) = put oj.dst x (put (uJ rs i) .junk z) := fun x z => St.put_comm z x .junk fun d hd he => (a6 d (hji2 d he)).2.1 hd
     have p2 : put (uJ rs i) .junk (put (uJ rs j) .junk z) = put (uJ rs j) .junk (put (uJ rs i) .junk z) := St.put_comm z .junk .junk fun d hd he => (a6 d (hji2 d he)).2.2 (hjj2 d hd)
     have p3 : ∀ (x y : AV) (z : St),put oi.dst y (put oj.dst x z) = put oj.dst x (put oi.dst y z) := fun x y z => St.put_comm z x y fun d hd he => b2 d he hd
     have p4 : ∀ (y : AV) (z : St),put oi.dst y (put (uJ rs j) .junk z) = put (uJ rs j) .junk (put oi.dst y z) := fun y z => St.put_comm z .junk y fun d hd he => (a7 d (hjj2 d hd)).2.1 he
     rw [p1,p3,p2,p4]
    ·cases hq : U κ with
     |none => rfl
     |some ob => exact absurd (hpj.dom hrj κ (by simp [hq])) (a4 _ (hy.dom hri κ hk))
   rw [e]
   exact hrest
def YRun (E : Env) (N : Nat) (ops : Array Oper) (rs : List Rec) (Q : List Oper → St → Prop) : Nat → Nat → List Oper → St → Prop
 | 0,k,l,s => Q l s
 |n + 1,k,[],s => False
 |n + 1,k,o :: l,s => ∃ v O,PkN E N ops rs k o s v O ∧ YRun E N ops rs Q n (k + 1) l (jR o rs k v O s)
theorem AOpX_sound {k : St → Prop} (h : SRel E N A w0 m s a w) (o : Oper) (ha : AOpX E N o.op o.dst s k) : OSat E N A w0 o a w k := by
 obtain ⟨K1,h1,h2⟩ := ha
 intro next Q hn
 refine wC h o h1 _ _ fun m' s' a' w' hS hk => ?_
 obtain ⟨s2,hw,hk2⟩ := h2 s' hk
 obtain ⟨m2,hS2⟩ := hw _ _ _ _ _ hS
 exact hn m2 s2 a' w' hS2 hk2
theorem aEX_inv {op : Op} {k : KE} (h : aEX E N op dst s k) : ∃ v O wr fr vk,k wr fr vk (eff v O (wG op) dst s) ∧ Pkc E N op dst s v O wr fr vk := by
 cases op with
 |call c =>
  obtain ⟨cal,args,argT⟩ := c
  cases cal with
  |builtin b =>
   cases b with
   |append => exact e9 rfl h
   | _ => exact h.elim
  | _ => exact h.elim
 | _ => exact h.elim
theorem X_to_Y {cl : List Nat} {Q : List Oper → St → Prop} : ∀ (n : Nat) (l : List Oper) (acc : List Rec) (s : St),XRun E N ops cl l acc Q n s →
  ∃ recs : List Rec,recs.length = n ∧ conf ops cl (acc ++ recs) (acc ++ recs).length = true ∧ YRun E N ops (acc ++ recs) Q n acc.length l s
 | 0,l,acc,s,h => by
  cases l <;> (simp only [XRun] at h; exact ⟨[],rfl,by simpa using h.1,h.2⟩)
 |n + 1,[],acc,s,h => h.elim
 |n + 1,o :: l,acc,s,h => by
  obtain ⟨dst,op,ty,pos,after,g⟩ := o
  simp only [XRun] at h
  split at h
  ·rename_i hw
   have hh : ∃ v O wr fr vk,(fun wr fr vk s' => XRun E N ops cl l (acc ++ [⟨yF (evs N s op.operands),wr,fr,vk,wG op⟩]) Q n s') wr fr vk (eff v O (wG op) dst s) ∧ Pkc E N op dst s v O wr fr vk := by
    cases hb : chainB op dst ops.toList with
    |true => rw [hb] at h; exact aEX_inv h
    |false => rw [hb] at h; exact aE_inv h
   obtain ⟨v,O,wr,fr,vk,h1,h2⟩ := hh
   obtain ⟨recs,hl,hc,hy⟩ := X_to_Y n l _ _ h1
   have hg : (acc ++ (⟨yF (evs N s op.operands),wr,fr,vk,wG op⟩ : Rec) :: recs)[acc.length]? = some ⟨yF (evs N s op.operands),wr,fr,vk,wG op⟩ := by simp
   refine ⟨⟨yF (evs N s op.operands),wr,fr,vk,wG op⟩ :: recs,by simp [hl],by simpa using hc,v,O,.inl ⟨hw,⟨yF (evs N s op.operands),wr,fr,vk,wG op⟩,hg,rfl,fun c hc => hc,h2⟩,?_⟩
   unfold jR
   rw [show uJ (acc ++ (⟨yF (evs N s op.operands),wr,fr,vk,wG op⟩ : Rec) :: recs) acc.length = wG op from by simp only [uJ,hg,Option.bind_some]]
   simpa using hy
  ·rename_i hw
   obtain ⟨recs,hl,hc,hy⟩ := X_to_Y n l _ _ h
   have hg : (acc ++ (⟨[],[],[],[],none⟩ : Rec) :: recs)[acc.length]? = some ⟨[],[],[],[],none⟩ := by simp
   refine ⟨⟨[],[],[],[],none⟩ :: recs,by simp [hl],by simpa using hc,xJ,fun _ => none,.inr ⟨hw,rfl,rfl,_,hg,rfl⟩,?_⟩
   unfold jR
   rw [show uJ (acc ++ (⟨[],[],[],[],none⟩ : Rec) :: recs) acc.length = none from by simp only [uJ,hg,Option.bind_some]]
   rw [r6,aT]
   simpa using hy
  ·exact h.elim
theorem iG {p : Nat} {Q : List Oper → St → Prop} (hC : Confs ops rs p) : ∀ (n k : Nat) (l : List Oper) (s : St),(∀ j,l[j]? = ops[k + j]?) → k + n = p → cG rs (fK ops.size k) s → YRun E N ops rs Q n k l s →
  AAnyE E N ops rs p (fun listed s => listed = fK ops.size p ∧ Q (ops.toList.drop p) s) n (fK ops.size k) s
 | 0,k,l,s,hl,hk,_,h => by
  have hk : k = p := by omega
  subst hk
  refine ⟨rfl,?_⟩
  have : l = ops.toList.drop k := by
   apply List.ext_getElem?
   intro j
   rw [hl j,List.getElem?_drop,Array.getElem?_toList]
  rw [← this]; exact h
 |n + 1,k,[],s,hl,hk,_,h => h.elim
 |n + 1,k,o :: l,s,hl,hk,hcl,h => by
  obtain ⟨v,O,h1,h2⟩ := h
  have hkp : k < p := by omega
  have hks : k < ops.size := Nat.lt_of_lt_of_le hkp hC.le
  have h0 : ops[k]? = some o := by simpa using (hl 0).symm
  have hdn : DownC ops (fK ops.size k) := cF fun j hj => hC.ready j (by omega)
  have hkr := hC.ready k hks
  have hcl' : cG rs (fK ops.size (k + 1)) (jR o rs k v O s) := by
   intro j r hr hun
   have hjp : j < p := by rw [← hC.len]; exact (List.getElem?_eq_some_iff.1 hr).1
   have hjs : j < ops.size := Nat.lt_of_lt_of_le hjp hC.le
   rw [gR] at hun
   have hjk : k < j := by
    rcases Nat.lt_or_ge k j with h | h
    ·exact h
    ·simp at hun; omega
   have hun0 : (fK ops.size k).getD j false = false := by rw [gR]; simp; omega
   have hcf := fun (r' : Rec) (hr' : rs[k]? = some r') => (gU (hC.pair j k hjp hkp (by omega)) (Array.getElem?_eq_getElem hjs) h0 hr hr').2 (bS (kC _ _) hdn hjs hun0 hkr)
   have hk0 := fun (r' : Rec) (hr' : rs[k]? = some r') => hcl k r' hr' (by rw [gR]; simp)
   exact ⟨fun c hc => h1.clean hk0 (fun r' hr' => (hcf r' hr').1 c hc) ((hcl j r hr hun0).1 c hc),fun d hd => h1.only hk0 (fun r' hr' => (hcf r' hr').2 d hd) ((hcl j r hr hun0).2 d hd)⟩
  refine AAnyE_first hC h0 hkp (fun _ _ h => h.1) n (fK ops.size k) s v O (kC _ _) hdn hcl hkr h1 ?_
  exact iG hC n (k + 1) l _ (fun j => by have := hl (j + 1); simpa [Nat.add_assoc,Nat.add_comm 1 j] using this) (by omega) hcl' h2
theorem fH {Q : AX → St → Prop} {p : Nat} {K : Array Bool → St → Prop} (hC : Confs ops rs p) (g : Nat) (hK : ∀ listed m s a w,SRel E N A w0 m s a w → K listed s → wpAny E.P .any ops (vB E N A w0 Q) g listed a w) :
  ∀ (fuel : Nat) (listed : Array Bool) (m : Own) (s : St) (a : Act) (w : World),listed.size = ops.size → DownC ops listed → cG rs listed s → SRel E N A w0 m s a w →
  AAnyE E N ops rs p K fuel listed s → wpAny E.P .any ops (vB E N A w0 Q) (fuel + g) listed a w
 | 0,listed,m,s,a,w,_,_,_,h,ha => by rw [Nat.zero_add]; exact hK listed m s a w h ha
 |fuel + 1,listed,m,s,a,w,hsz,hd,hcl,h,ha => by
  rw [show fuel + 1 + g = (fuel + g) + 1 from by omega]
  refine ⟨fun h0 => absurd h0 ha.1,fun i hi => ?_⟩
  obtain ⟨hip,o,v,O,ho,hp,hrest⟩ := ha.2 i hi
  obtain ⟨his,hiun⟩ := kN hsz hi
  have hcl' : cG rs (listed.setIfInBounds i true) (jR o rs i v O s) := by
   intro k r hrk hun
   have hki : k ≠ i := fun e => by
    subst e
    have : k < listed.size := by omega
    simp [this] at hun
   have hun0 : listed.getD k false = false := by rw [getD_set_ne false (Ne.symm hki)] at hun; exact hun
   have hkp : k < p := by rw [← hC.len]; exact (List.getElem?_eq_some_iff.1 hrk).1
   have hks : k < ops.size := Nat.lt_of_lt_of_le hkp hC.le
   have hcf := fun (r' : Rec) (hr' : rs[i]? = some r') => (gU (hC.pair k i hkp hip hki) (Array.getElem?_eq_getElem hks) ho hrk hr').2 (bS hsz hd hks hun0 hi)
   exact ⟨fun c hc => hp.clean (fun r' hr' => hcl i r' hr' hiun) (fun r' hr' => (hcf r' hr').1 c hc) ((hcl k r hrk hun0).1 c hc),fun d hd => hp.only (fun r' hr' => hcl i r' hr' hiun) (fun r' hr' => (hcf r' hr').2 d hd) ((hcl k r hrk hun0).2 d hd)⟩
  have hnext : ∀ m' s' a' w',SRel E N A w0 m' s' a' w' → s' = jR o rs i v O s → wpAny E.P .any ops (vB E N A w0 Q) (fuel + g) (listed.setIfInBounds i true) a' w' := by
   intro m' s' a' w' hS he
   subst he
   exact fH hC g hK fuel _ m' _ a' w' (by simpa using hsz) (hd.step hi) hcl' hS hrest
  unfold wpOp
  simp only [ho]
  rcases hp with ⟨hw,r,h2,hj,h3,h4⟩ | ⟨hw,hv,hO,r,h2,hj⟩
  ·rw [if_pos (yS h ops o hw)]
   refine .inl (AOpX_sound h o (k := fun s' => s' = jR o rs i v O s) ?_ _ _ hnext)
   refine (h4.2 s ⟨fun _ _ => rfl,fun _ _ => rfl⟩ (hcl i r h2 hiun).1 fun d hd => (hcl i r h2 hiun).2 d (hj.trans hd)).1 _ ?_
   unfold jR
   rw [show uJ rs i = wG o.op from by simp only [uJ,h2,Option.bind_some,hj]]
  ·subst hv; subst hO
   rw [if_neg (by rw [yS h ops o hw]; simp)]
   refine hnext m _ _ w (h.put o.dst xV) ?_
   unfold jR
   rw [show uJ rs i = none from by simp only [uJ,h2,Option.bind_some,hj],r6,aT]
theorem cK {Q : AX → St → Prop} (h : SRel E N A w0 m s a w) (ha : cL E N ops Q s) : wpAny E.P .any ops (vB E N A w0 Q) ops.size (Array.replicate ops.size false) a { w with drawn := w.drawn + 1 } := by
 obtain ⟨p,ex,hx⟩ := ha
 generalize hclv : rL ops.toList ++ ex = cl at hx
 obtain ⟨recs,hl,hc,hy⟩ := X_to_Y p _ _ _ hx
 simp only [List.nil_append,List.length_nil] at hc hy
 rw [hl] at hc
 simp only [conf,Bool.and_eq_true,List.all_eq_true,List.mem_range] at hc
 obtain ⟨⟨⟨⟨c1,c2⟩,c3⟩,c4⟩,c5⟩ := hc
 have hp : p ≤ ops.size := Nat.le_of_ble_eq_true c1
 have hC : Confs ops recs p := by
  refine ⟨hl,hp,fun i j hi hj hij => ?_,fun k hk => ?_,fun k hk hks => ?_,fun k hk hks i hi => ?_⟩
  ·have := c3 i hi j hj
   simp only [Bool.or_eq_true,beq_iff_eq] at this
   exact this.resolve_left hij
  ·have := (c5 k hk).1; simpa using this
  ·have := (c5 k hks).2
   rw [if_neg (by omega)] at this
   simp only [Bool.and_eq_true,Bool.or_eq_true,beq_iff_eq] at this
   exact this.1
  ·have := (c5 k hks).2
   rw [if_neg (by omega)] at this
   simp only [Bool.and_eq_true,List.all_eq_true,List.mem_range] at this
   exact this.2 i hi
 have hcl : cG recs (fK ops.size 0) (s.clean cl) := fun i r hr _ => by
  obtain ⟨d1,d2⟩ := c4 r (List.mem_of_getElem? hr)
  refine ⟨fun c hcr => NoK.clean (oB (d1 c hcr)),fun d hd => NoK.only (NoK.clean (oB ?_)) d⟩
  rw [hd] at d2; exact d2
 have hA := iG hC p 0 ops.toList (s.clean cl) (fun j => by rw [Nat.zero_add,Array.getElem?_toList]) (by omega) hcl hy
 have hS : SRel E N A w0 m (s.clean cl) a { w with drawn := w.drawn + 1 } := h.drew.clean cl
 have hW := fH (A := A) (w0 := w0) (Q := Q) hC (ops.size - p) (fun listed m s a w hS hK => by
  obtain ⟨rfl,hrun⟩ := hK
  have := uF hC.ready hC.alone (ops.toList.drop p) p (fun j => by rw [List.getElem?_drop,Array.getElem?_toList]) (Nat.le_refl _) (by simp; omega) hS hrun
  simpa using this) p _ m _ a _ (kC _ _) (cF (k := 0) fun j hj => by omega) hcl hS hA
 rw [show p + (ops.size - p) = ops.size from by omega] at hW
 exact hW
theorem w6 {Q : AX → St → Prop} {id : Nat} (h : SRel E N A w0 m s a w) (ha : cL E N ops Q s) : (Code.region id ops true).wp E.P (vB E N A w0 Q) a w :=
 wp_region_any E.hm (cK h ha)
theorem tJ (i : Nat) : ∀ (l : List Oper) (j k : Nat),(fY i j l)[k]? = (l[k]?).map (vS i (j + k))
 | [],j,k => by simp [fY]
 |o :: l,j,0 => by simp [fY]
 |o :: l,j,k + 1 => by
  simp only [fY,List.getElem?_cons_succ]
  rw [tJ i l (j + 1) k,show j + 1 + k = j + (k + 1) from by omega]
theorem gO (i k : Nat) : (qR i ops)[k]? = (ops[k]?).map (vS i k) := by
 unfold qR
 rw [List.getElem?_toArray,tJ,Array.getElem?_toList,Nat.zero_add]
theorem tI (i : Nat) : ∀ (l : List Oper) (j : Nat),(fY i j l).length = l.length
 | [],j => rfl
 |o :: l,j => by simp [fY,tI i l]
theorem pP (i : Nat) : (qR i ops).size = ops.size := by simp [qR,tI]
theorem tX (i k : Nat) (o : Oper) : (vS i k o).dst = o.dst := by unfold vS; cases (Nat.beq i k || gK o) <;> rfl
theorem y4 (i k : Nat) (o : Oper) : (vS i k o).guard = o.guard := by unfold vS; cases (Nat.beq i k || gK o) <;> rfl
theorem after1_wp (i k : Nat) (o : Oper) (P : Program) (a : Act) (w : World) (K : Act → World → Prop) (Q : Exit → Act → World → Prop) : (vS i k o).wp P a w K Q = o.wp P a w K Q := by unfold vS; cases (Nat.beq i k || gK o) <;> rfl
theorem i8 (i k : Nat) (o : Oper) (P : Program) (a : Act) (w : World) : (vS i k o).asks P a w = o.asks P a w := by unfold vS; cases (Nat.beq i k || gK o) <;> rfl
theorem cU (i : Nat) (tmps : Array Value) : yielded (qR i ops) tmps = yielded ops tmps := by
 funext g
 unfold yielded
 rw [gO]
 cases ops[g]? with
 |none => rfl
 |some o => simp only [Option.map_some,Option.bind_some,tX]
theorem tH (i k : Nat) (P : Program) (Q : Exit → Act → World → Prop) (K : Act → World → Prop) (a : Act) (w : World) : wpOp P (qR i ops) Q k K a w = wpOp P ops Q k K a w := by
 unfold wpOp
 rw [gO]
 cases ops[k]? with
 |none => rfl
 |some o => simp only [Option.map_some,cU,after1_wp,i8,tX]; rw [show Region.wanted (vS i k o) (yielded ops a.tmps) = Region.wanted o (yielded ops a.tmps) from by unfold Region.wanted; rw [y4]]
theorem fX (i : Nat) (listed : Array Bool) (hl : listed.getD i false = true) : Region.ready .any (qR i ops) listed = Region.ready .any ops listed := by
 unfold Region.ready
 rw [pP]
 apply List.filter_congr
 intro k hk
 rw [gO]
 cases ops[k]? with
 |none => rfl
 |some o =>
  simp only [Option.map_some,Option.getD_some]
  congr 1
  unfold vS
  cases (Nat.beq i k || gK o) with
  |true => rfl
  |false =>
   simp only [cond_false,Array.all_push]
   rw [show (!Region.binds .any { on := i,ground := Ground.data } || listed.getD i false) = true from by rw [hl,Bool.or_true],Bool.and_true]
theorem eM (i : Nat) {P : Program} {Q : Exit → Act → World → Prop} : ∀ (fuel : Nat) (listed : Array Bool) (a : Act) (w : World),listed.getD i false = true → wpAny P .any (qR i ops) Q fuel listed a w → wpAny P .any ops Q fuel listed a w
 | 0,listed,a,w,hl,h => ⟨by rw [← fX i listed hl]; exact h.1,h.2⟩
 |fuel + 1,listed,a,w,hl,h => by
  refine ⟨fun h0 => h.1 (by rw [fX i listed hl]; exact h0),fun k hk => ?_⟩
  have := h.2 k (by rw [fX i listed hl]; exact hk)
  rw [tH] at this
  exact wpOp_mono (fun a w h2 => eM i fuel _ a w (getD_set_true hl) h2) this
theorem cJ {Q : AX → St → Prop} (h : SRel E N A w0 m s a w) : ∀ (is : List Nat) (ops : Array Oper),w5 E N Q s is ops → wpAny E.P .any ops (vB E N A w0 Q) ops.size (Array.replicate ops.size false) a { w with drawn := w.drawn + 1 }
 | [],ops,ha => cK h ha
 |i :: is,ops,ha => by
  obtain ⟨ht,ha⟩ := ha
  have hA := cJ h is (qR i ops) ha
  rw [pP] at hA
  simp only [takeB,Bool.and_eq_true] at ht
  obtain ⟨⟨⟨t1,t2⟩,t3⟩,t4⟩ := ht
  cases hi : ops[i]? with
  |none => rw [hi] at t1; cases t1
  |some o =>
   rw [hi] at t1
   simp only at t1
   have his : i < ops.size := (Array.getElem?_eq_some_iff.1 hi).1
   obtain ⟨n,hn⟩ : ∃ n,ops.size = n + 1 := ⟨ops.size - 1,by omega⟩
   have hy : ∃ v,Yields E.P ops o v a ∧ ∀ (P : Program) (w : World),(execOp a.eval o).run P w = .ok (.value v) w := by
    obtain ⟨dst,op,type,pos,after,guard⟩ := o
    unfold gK at t1
    split at t1
    ·rename_i x t e1 e2 e3
     simp only at e1 e2 e3
     subst e1 e2 e3
     have hv : ∀ (P : Program) (w : World),(execOp a.eval ⟨some t,.move x,type,pos,after,none⟩).run P w = .ok (.value (a.eval x)) w := fun P w => by simp [execOp]
     exact ⟨a.eval x,.inl ⟨rfl,hv _⟩,hv⟩
    ·rename_i x t e1 e2 e3
     simp only at e1 e2 e3
     subst e1 e2 e3
     have hv : ∀ (P : Program) (w : World),(execOp a.eval ⟨some t,.assign x,type,pos,after,none⟩).run P w = .ok (.value (a.eval x)) w := fun P w => by simp [execOp]
     exact ⟨a.eval x,.inl ⟨rfl,hv _⟩,hv⟩
    ·cases t1
   obtain ⟨v,hyv,hrun⟩ := hy
   rw [hn] at hA ⊢
   have hmem : i ∈ Region.ready .any (qR i ops) (Array.replicate (n + 1) false) := by
    have h4 : i ∈ Region.ready .any ops (Array.replicate ops.size false) := by simpa using t4
    rw [hn] at h4
    obtain ⟨g0,o',g1,g2⟩ := mem_ready.1 h4
    exact mem_ready.2 ⟨g0,vS i i o',by rw [gO,g1]; rfl,by unfold vS; rw [nbeq_self,Bool.true_or]; exact g2⟩
   have h1 := hA.2 i hmem
   rw [tH] at h1
   have hwant : Region.wanted o (yielded ops a.tmps) = true := by
    rcases hyv with ⟨g,_⟩ | ⟨g,_⟩
    ·exact g
    ·have hg : o.guard = none := by
      unfold gK at t1
      split at t1 <;> first | assumption | cases t1
     unfold Region.wanted at g
     rw [hg] at g
     cases g
   unfold wpOp at h1
   simp only [hi,hwant,if_true] at h1
   have h2 : wpAny E.P .any (qR i ops) (vB E N A w0 Q) n ((Array.replicate (n + 1) false).setIfInBounds i true) (a.put o.dst v) { w with drawn := w.drawn + 1 } := by
    rcases h1 with h1 | ⟨h1,_⟩
    ·unfold Oper.wp at h1
     rw [hrun] at h1
     exact h1
    ·rename_i hlets
     obtain ⟨a',w',hl⟩ := hlets
     exact hl.elim
   have h3 := eM i n _ _ _ (by simp; omega) h2
   exact wpAny_take hi t2 (by rw [hn] at t3; exact t3) (by rw [hn] at t4; exact t4) (fun c a w hq => hq) hyv h3
theorem ADraw_sound (ops : Array Oper) (Q : AX → St → Prop) {id : Nat} (h : SRel E N A w0 m s a w) (ha : ADraw E N ops Q s) : (Code.region id ops true).wp E.P (vB E N A w0 Q) a w :=
 w4 ops Q h (fun hE => w6 h hE) (fun is hF => wp_region_any E.hm (cJ h is ops hF)) ha
end
end Ai
end
section
namespace Ai
open Go Go.RowKit
section
variable {E : Env} {N : Nat} {A : Fr} {w0 w w' : World} {m m' : Own} {s s' : St} {a : Act} {dst : Option Tmp} {k : St → Prop}
def x5 (P : Program) (c : Code) (Q : Exit → Act → World → Prop) (a : Act) (w : World) : Prop :=
 ∀ (b : Frame) (k : List Item) (cs : List Frame),∃ e a' w',Q e a' w' ∧ Arrives P (lone (b.at a (.code c :: .inLoop c :: k)) cs w) b k cs e a' w'
theorem l3 {P : Program} {c : Code} {Q : Exit → Act → World → Prop} {a : Act} {w : World} (h : c.wp P (Exit.then (x5 P c Q) Q) a w) : x5 P c Q a w := by
 intro b k cs
 obtain ⟨e,a₁,w₁,hq,harr⟩ := h b (.inLoop c :: k) cs
 cases e with
 |normal =>
  obtain ⟨e₂,a₂,w₂,hq₂,harr₂⟩ := hq b k cs
  exact ⟨e₂,a₂,w₂,hq₂,.of_steps (harr.trans (.one step_inLoop)) harr₂⟩
 |exit id => exact ⟨_,a₁,w₁,hq,.pass (x := .inLoop c) rfl (fun _ _ => .inl (by simp)) harr⟩
 |goto l => exact ⟨_,a₁,w₁,hq,.pass (x := .inLoop c) rfl (fun _ _ => .inl (by simp)) harr⟩
 |ret => exact ⟨_,a₁,w₁,hq,.pass (x := .inLoop c) rfl (fun _ _ => .inl (by simp)) harr⟩
 |panic ch => exact ⟨_,a₁,w₁,hq,.pass (x := .inLoop c) rfl (fun _ _ => .inl (by simp)) harr⟩
 |outgrown => exact ⟨_,a₁,w₁,hq,.pass (x := .inLoop c) rfl (fun _ _ => .inl (by simp)) harr⟩
theorem iI {P : Program} {c : Code} {Q : Exit → Act → World → Prop} {a : Act} {w : World} (h : x5 P c Q a w) : (Code.loop c).wp P Q a w := by
 intro b k cs
 obtain ⟨e,a',w',hq,harr⟩ := h b k cs
 exact ⟨e,a',w',hq,.of_steps (.one step_loop) harr⟩
theorem AW_sound (c : Code) : ∀ (Q : AX → St → Prop) {m : Own} {s : St} {a : Act} {w : World},SRel E N A w0 m s a w → AW E N c Q s → c.wp E.P (vB E N A w0 Q) a w := by
 induction c with
 |skip => exact fun Q m s a w h ha => wp_skip ⟨m,s,h,ha⟩
 |region id ops draw =>
  intro Q m s a w h ha
  cases draw with
  |false =>
   have ha2 : bZ E N ops ops.toList Q s := ha
   refine wp_region ?_
   have heq := wpOps_eq_wpList (P := E.P) (ops := ops) (Q := vB E N A w0 Q) ops.toList 0 (fun j => by simp)
   rw [List.range_eq_range']
   rw [show ops.size = ops.toList.length from by simp,heq]
   exact hZ ops Q _ h ha2
  |true =>
   have ha2 : ADraw E N ops Q s := ha
   exact ADraw_sound ops Q h ha2
 |seq x y ihx ihy =>
  intro Q m s a w h ha
  have ha2 : AW E N x (dB (AW E N y Q) Q) s := ha
  refine wp_seq (wp_mono (ihx _ h ha2) fun e a' w' hq => ?_)
  cases e with
  |normal =>
   obtain ⟨m',s',hS,hk⟩ := hq
   exact ihy Q hS hk
  |exit id => exact hq
  |ret => exact hq
  |goto l => exact hq.elim
  |panic ch => exact hq.elim
  |outgrown => exact hq.elim
 |cond c x y ihx ihy =>
  intro Q m s a w h ha
  have ha2 : (match ev N s c with | .d (.bool b) => (match b with | true => AW E N x Q s | false => AW E N y Q s) | _ => False) := ha
  have hc := h.ev c
  split at ha2
  ·rename_i b hb
   rw [hb] at hc
   generalize hv : a.eval c = cv at hc
   cases hc with
   |d _ _ hd => cases hd with
    |bool =>
     cases b with
     |true => exact wp_cond hv (ihx Q h ha2)
     |false => exact wp_cond hv (ihy Q h ha2)
  ·exact ha2.elim
 |block id c ih =>
  intro Q m s a w h ha
  have ha2 : AW E N c (tB id Q) s := ha
  refine wp_block (wp_mono (ih _ h ha2) fun e a' w' hq => ?_)
  cases e with
  |normal => exact hq
  |exit i =>
   obtain ⟨m',s',hS,hk⟩ := hq
   simp only [tB] at hk
   simp only [Exit.inBlock]
   by_cases hi : i = id
   ·subst hi
    rw [nbeq_self] at hk
    rw [if_pos rfl]
    exact ⟨m',s',hS,hk⟩
   ·rw [nbeq_ne hi] at hk
    rw [if_neg hi]
    exact ⟨m',s',hS,hk⟩
  |ret => exact hq
  |goto l => exact hq.elim
  |panic ch => exact hq.elim
  |outgrown => exact hq.elim
 |loop c ih =>
  intro Q m s a w h ha
  have ha2 : ALoop E N (AW E N c) Q s := ha
  unfold ALoop at ha2
  refine iI (ha2 (fun s => ∀ m a w,SRel E N A w0 m s a w → x5 E.P c (vB E N A w0 Q) a w) ?_ m a w h)
  intro s s' K hweak hb hKR m a w hS
  obtain ⟨m',hS'⟩ := hweak A w0 m a w hS
  refine l3 (wp_mono (ih _ hS' hb) fun e a' w' hq => ?_)
  cases e with
  |normal =>
   obtain ⟨m2,s2,hS2,hk⟩ := hq
   exact hKR s2 hk m2 a' w' hS2
  |exit i => exact hq
  |ret => exact hq
  |goto l => exact hq.elim
  |panic ch => exact hq.elim
  |outgrown => exact hq.elim
 |rangeFunc f ps as1 b ihas ihb => exact fun Q m s a w h ha => False.elim ha
 |exit id => exact fun Q m s a w h ha => wp_exit ⟨m,s,h,ha⟩
 |scope b ih => exact fun Q m s a w h ha => wp_scope_straight (wp_mono (ih Q h ha) fun e a' w' hq => by cases e <;> first | exact hq | exact hq.elim)
 |label l => exact fun Q m s a w h ha => wp_label ⟨m,s,h,ha⟩
 |goto l => exact fun Q m s a w h ha => False.elim ha
 |ret => exact fun Q m s a w h ha => wp_ret ⟨m,s,h,ha⟩
 |refuse why => exact fun Q m s a w h ha => False.elim ha
end
end Ai
end
section
namespace Ai
open Go Go.RowKit
def St.init (xs : List AV) : St := { τ := fun i => xs.getD i .junk,H := fun _ => none }
def lL (E : Env) (N : Nat) (s : St) : List ResultVar → Option (List AV)
 | [] => some []
 | .tmp t :: rs => (match lL E N s rs with | some vs => some (ev N s (.tmp t) :: vs) | none => none)
 | .cell t T :: rs => (match lL E N s rs,E.Θ T with
  |some vs,some ti => (match vG s (ev N s (.tmp t)) ti.sz with
   |some cs => (match pD ti cs with | some v => some (v :: vs) | none => none)
   |none => none)
  | _,_ => none)
def jH (E : Env) (N : Nat) (s : St) (rs : List ResultVar) : Option AV :=
 match lL E N s rs with
 |some [v] => (match v with
  | .ref o 0 n => (match s.H o with | some (.ds e sz els) => some (.uq e sz (els.take n)) | _ => none)
  | .d .nil => none
  |v => fz s v)
 |some vs => (match fzs s vs with | some xs => some (.tup xs) | none => none)
 |none => none
def OwnOK (cs : List AV) : Prop := ∀ v ∈ cs,match v with
 | .uqd _ _ _ _ _ rows subs => rows.length = subs.length
 | .uq .. => True
 | .d _ => True
 | _ => False
def jE (E : Env) (N : Nat) (s : St) (rs : List ResultVar) (R : AV → Prop) : Prop :=
 match lL E N s rs with
 |some [.d .nil] => R (.d (.sl [])) ∨ ∃ e sz,R (.uq e sz [])
 |some [v] => (∃ y,FzA s v y ∧ R y) ∨ (∃ cs s1,Weak E N s s1 ∧ lL E N s1 rs = some [ownR 0 cs] ∧ OwnOK cs ∧ (∀ κ,ownH cs κ ≠ none → s1.H κ = ownH cs κ) ∧ R (.own cs))
 |some vs => ∃ ys,FzL s vs ys ∧ R (.tup ys)
 |none => False
def j4 (E : Env) (N : Nat) (s : St) (rs : List ResultVar) (R : AV → Prop) : Prop :=
 ∃ f cs s1 vs,Weak E N s s1 ∧ lL E N s1 rs = some vs ∧ vs.length ≠ 1 ∧ ownR f cs = .tup vs ∧ OwnOK cs ∧ (∀ κ,ownH cs κ ≠ none → s1.H κ = ownH cs κ) ∧ R (.ownF f cs)
def nF : List AV → Bool
 | [] => false
 |v :: vs => (match v with | .d .nil => true | _ => false) || nF vs
def retIO (E : Env) (fn : Func) (Post : AV → (Key → Option Ob) → Prop) : AX → St → Prop
 | .exit _,_ => False
 | _,s => ∃ s1,Weak E fn.ntmps s s1 ∧ (match lL E fn.ntmps s1 fn.results.toList with
  |some [v] => ∃ K : Key → Bool,Post (scrP (fun o => !K o) v) (yI K s1.H)
  |some vs => ∃ K : Key → Bool,Post (.tup (vs.map (scrP fun o => !K o))) (yI K s1.H)
  |none => False)
def retQ (E : Env) (fn : Func) (R : AV → Prop) : AX → St → Prop
 | .exit _,_ => False
 | _,s => match lL E fn.ntmps s fn.results.toList with
  |some [.agg cs] => bif yD cs then (match jH E fn.ntmps s fn.results.toList with | some r => kv r R | none => False) ∨ jE E fn.ntmps s fn.results.toList R
    else (match jH E fn.ntmps s fn.results.toList with | some r => kv r R | none => jE E fn.ntmps s fn.results.toList R)
  |some (v1 :: v2 :: vs) => bif yD (v1 :: v2 :: vs) || nF (v1 :: v2 :: vs) then (match jH E fn.ntmps s fn.results.toList with | some r => kv r R | none => jE E fn.ntmps s fn.results.toList R) ∨ j4 E fn.ntmps s fn.results.toList R
    else (match jH E fn.ntmps s fn.results.toList with | some r => kv r R | none => jE E fn.ntmps s fn.results.toList R)
  | _ => (match jH E fn.ntmps s fn.results.toList with | some r => kv r R | none => jE E fn.ntmps s fn.results.toList R)
section
variable {E : Env} {N : Nat} {A : Fr} {w0 w w' : World} {m m' : Own} {s s' : St} {a : Act} {dst : Option Tmp} {k : St → Prop}
def sC (tmps : Array Value) : ResultVar → Sem Value
 | .tmp t => pure (tmps.getD t undef)
 | .cell p t => do loadVar t (← asAddr (tmps.getD p undef))
theorem sF (fn : Func) (tmps : Array Value) : results fn tmps = (do let vs ← fn.results.mapM (sC tmps); pure (if h : vs.size = 1 then vs[0] else .tuple vs)) := by
 unfold results
 congr 2
theorem vA (h : SRel E N A w0 m s a w) : ∀ (rs : List ResultVar) (vs : List AV),lL E N s rs = some vs →
  ∃ us : List Value,(rs.mapM (sC a.tmps)).run E.P w = .ok us w ∧ vs.length = us.length ∧
   ∀ (i : Nat) (x : AV) (v : Value),vs[i]? = some x → us[i]? = some v → VRel w (okB A s.H m w) m s.H x v
 | [],vs,ho => by
  simp only [lL,Option.some.injEq] at ho
  subst ho
  exact ⟨[],by simp,rfl,by simp⟩
 | .tmp t :: rs,vs,ho => by
  simp only [lL] at ho
  split at ho
  ·rename_i vs' hvs
   simp only [Option.some.injEq] at ho
   subst ho
   obtain ⟨us,h1,h2,h3⟩ := vA h rs vs' hvs
   refine ⟨a.eval (.tmp t) :: us,?_,by simp [h2],fun i x v hx hv => ?_⟩
   ·rw [List.mapM_cons]
    simp only [sC,Sem.run_bind,Sem.run_pure,Result.andThen_ok,h1]
    rfl
   ·cases i with
    |zero => simp at hx hv; subst hx; subst hv; exact h.ev _
    |succ i => exact h3 i x v (by simpa using hx) (by simpa using hv)
  ·cases ho
 | .cell p T :: rs,vs,ho => by
  simp only [lL] at ho
  split at ho
  ·rename_i vs' ti hvs hti
   split at ho
   ·rename_i cs hcs
    split at ho
    ·rename_i v0 hv0
     simp only [Option.some.injEq] at ho
     subst ho
     obtain ⟨us,h1,h2,h3⟩ := vA h rs vs' hvs
     obtain ⟨b,off,hp,hl,hcl⟩ := pM h (h.ev (.tmp p)) hcs
     obtain ⟨u,hu,hr⟩ := lS (E := E) (w := w) hti b off hl hcl hv0
     refine ⟨u :: us,?_,by simp [h2],fun i x v hx hv => ?_⟩
     ·rw [List.mapM_cons]
      have hp2 : a.tmps.getD p undef = .pointer (some ⟨b,off,none⟩) := hp
      have hu2 : (loadVar T ⟨b,off,none⟩).run E.P w = .ok u w := by
       simpa [Instr.loadAt,Instr.sureAddr] using hu
      have hg : (sC a.tmps (.cell p T)).run E.P w = .ok u w := by
       simp only [sC,Sem.run_bind,hp2,asAddr,Sem.run_pure,Result.andThen_ok,hu2]
      simp only [Sem.run_bind,hg,Result.andThen_ok,h1,Sem.run_pure]
     ·cases i with
      |zero => simp at hx hv; subst hx; subst hv; exact hr
      |succ i => exact h3 i x v (by simpa using hx) (by simpa using hv)
    ·cases ho
   ·cases ho
  ·cases ho
theorem f6 (h : SRel E N A w0 m s a w) {B : Nat → Prop} (hB : ∀ b,A b → B b ∨ w0.heap.size ≤ b) (fn : Func) {r : AV} (ho : jH E N s fn.results.toList = some r) :
  ∃ v,(results fn a.tmps).run E.P w = .ok v w ∧ mJ w0 w B r v := by
 unfold jH at ho
 have hokall : ∀ b,okB A s.H m w b → b < w.heap.size ∧ (B b ∨ w0.heap.size ≤ b) := fun b hb => ⟨hb.1,hB b hb.2.2⟩
 have hown : true = true → ∀ o p,s.H o ≠ none → m o = some p → p.1 < w.heap.size ∧ (B p.1 ∨ w0.heap.size ≤ p.1) := fun _ o p ho hp => ⟨xQ h ho hp,.inr (own_ge h ho hp)⟩
 have hres : ∀ us : List Value,(fn.results.toList.mapM (sC a.tmps)).run E.P w = .ok us w → (results fn a.tmps).run E.P w = .ok (if h : us.toArray.size = 1 then us.toArray[0] else .tuple us.toArray) w := by
  intro us hus
  rw [sF,Array.mapM_eq_mapM_toList]
  simp only [Sem.run_bind,Sem.run_map,Sem.run_pure,hus,Result.andThen_ok]
 split at ho
 ·rename_i v hv
  obtain ⟨us,h1,h2,h3⟩ := vA h _ _ hv
  have hl1 : us.length = 1 := by simpa using h2.symm
  obtain ⟨u,rfl⟩ : ∃ u,us = [u] := by
   match us,hl1 with
   | [u],_ => exact ⟨u,rfl⟩
  have hrel := h3 0 v u rfl rfl
  refine ⟨u,hres _ h1,?_⟩
  split at ho
  ·rename_i o n
   split at ho
   ·rename_i e sz els hH
    simp only [Option.some.injEq] at ho
    subst ho
    cases hrel with
    |ref _ _ _ e3 sz3 els3 b full cap hH3 hn hmo hcap hnc =>
     rw [hH] at hH3
     injection hH3 with hH3
     injection hH3 with i1 i2 i3
     subst i1; subst i2; subst i3
     have hcf := hcap rfl
     subst hcf
     obtain ⟨hmn,_⟩ | ⟨b',full',cur,hm',hbb,hcur,hlen,hmax,hszc,hcells⟩ := h.objs o _ hH
     ·rw [hmo] at hmn; cases hmn
     ·rw [hmo] at hm'
      injection hm' with hm'
      injection hm' with e1 e2
      subst e1; subst e2
      have hll : (els.take n).length = n := by simp; omega
      refine .inr ⟨b,cap,cur,by rw [hll,Nat.zero_mul],hbb,hcur,by omega,hmax,hszc,fun j c hj => ?_⟩
      have hj2 : els[j]? = some c := by
       have hjn : j < n := by have := (List.getElem?_eq_some_iff.1 hj).1; omega
       rw [List.getElem?_take,if_pos hjn] at hj; exact hj
      refine ⟨(hcells j c hj2).1,fun i d hi => ?_⟩
      obtain ⟨u,hu,hr⟩ := (hcells j c hj2).2 i d hi
      refine ⟨u,hu,hr.mono fun x hx => ⟨⟨hokall x hx,?_⟩,rfl⟩⟩
      intro hxb
      exact hx.2.1 o (by simp [hH]) _ hmo hxb.symm
    |ref0 _ e3 sz3 hH3 hmo =>
     rw [hH] at hH3
     injection hH3 with hH3
     injection hH3 with i1 i2 i3
     subst i3
     exact .inl ⟨by simp,rfl⟩
   ·cases ho
  ·cases ho
  ·have := oR h hokall (B := true) hown (fun _ => rfl) hrel ho
   unfold mJ
   cases r <;> first | exact this | (cases this)
 ·rename_i vs hne hv
  split at ho
  ·rename_i xs hxs
   simp only [Option.some.injEq] at ho
   subst ho
   obtain ⟨us,h1,h2,h3⟩ := vA h _ _ hv
   have hl1 : us.length ≠ 1 := by
    intro he
    rw [he] at h2
    match vs,h2 with
    | [v],_ => exact hne v rfl
   refine ⟨.tuple us.toArray,?_,?_⟩
   ·rw [hres _ h1,dif_neg (by simpa using hl1)]
   ·obtain ⟨g1,g2⟩ := oP _ _ hxs
    refine .tup xs us.toArray (by simp; omega) fun i c u hc hu => ?_
    obtain ⟨c0,h4,h5⟩ := g2 i c hc
    exact oR h hokall (B := true) hown (fun _ => rfl) (h3 i c0 u h4 (by simpa using hu)) h5
  ·cases ho
 ·cases ho
theorem scrPL_id {p : Key → Bool} : ∀ {l : List AV},(∀ c ∈ l,scrP p c = c) → scrPL p l = l
 | [],_ => rfl
 |v :: vs,h => by simp only [scrPL]; rw [h v List.mem_cons_self,scrPL_id fun c hc => h c (List.mem_cons_of_mem _ hc)]
theorem aL {p : Key → Bool} : ∀ {l : List AV},scrPL p l = l → ∀ c ∈ l,scrP p c = c
 | [],_,c,hc => by cases hc
 |v :: vs,h,c,hc => by
  simp only [scrPL,List.cons.injEq] at h
  rcases List.mem_cons.1 hc with rfl | hc
  ·exact h.1
  ·exact aL h.2 c hc
theorem wrap_scr {p : Key → Bool} : ∀ (f : Nat) {l : List AV},scrPL p l = l → scrP p (jV f l) = jV f l
 | 0,l,h => by simp only [jV,scrP]; rw [h]
 | 1,l,h => by
  match l,h with
  | [],h => rfl
  | [x],h =>
   have h : [scrP p x] = [x] := by simpa [scrPL] using h
   exact (List.cons.inj h).1
  |x :: y :: l,h => show AV.tup (scrPL p (x :: y :: l)) = .tup (x :: y :: l); rw [h]
 |k + 2,l,h => by
  have hc := aL h
  simp only [jV,scrP,scrPL]
  rw [scrPL_id fun c hm => hc c (List.mem_of_mem_take hm),scrPL_id fun c hm => hc c (List.mem_of_mem_drop hm)]
theorem own_closed {cs : List AV} (hok : OwnOK cs) : (∀ κ ob, ownH cs κ = some ob → scrPO (fun o => !(ownH cs o).isSome) ob = ob) ∧ ∀ f, scrP (fun o => !(ownH cs o).isSome) (ownR f cs) = ownR f cs := by
  constructor
  · intro κ ob hob
    cases κ with
    | n kk =>
      have hob0 := hob
      simp only [ownH] at hob
      cases hlt : Nat.blt kk 900 with
      | true => rw [hlt] at hob; cases hob
      | false =>
        rw [hlt] at hob
        simp only [cond_false] at hob
        split at hob
        · injection hob with hob; subst hob; rfl
        · rename_i e sz cc e2 sz2 rows subs hc
          injection hob with hob; subst hob
          simp only [scrPO, Ob.rs.injEq, true_and]
          have hl : rows.length = subs.length := hok _ (List.mem_of_getElem? hc)
          refine List.ext_getElem? fun j => ?_
          rw [List.getElem?_map]
          cases hj : (ownRows kk cc rows subs)[j]? with
          | none => rfl
          | some row =>
            simp only [Option.map_some, Option.some.injEq]
            simp only [ownRows, List.getElem?_mapIdx, Option.map_eq_some_iff] at hj
            obtain ⟨row0, hrow, rfl⟩ := hj
            refine scrPL_id fun c hcm => ?_
            rcases List.mem_or_eq_of_mem_set hcm with hcm | rfl
            · obtain ⟨x, _, rfl⟩ := List.mem_map.1 hcm
              rfl
            · have hjl : j < subs.length := by rw [← hl]; exact (List.getElem?_eq_some_iff.1 hrow).1
              have : ownH cs (.s kk j) = some (.ds e2 sz2 subs[j]) := by
                simp only [ownH, hlt, cond_false, hc, List.getElem?_eq_getElem hjl, Option.map_some]
              simp only [scrP, this, Option.isSome_some, Bool.not_true, cond_false]
        · cases hob
    | s o j =>
      simp only [ownH] at hob
      cases hlt : Nat.blt o 900 with
      | true => rw [hlt] at hob; cases hob
      | false =>
        rw [hlt] at hob
        simp only [cond_false] at hob
        split at hob
        · obtain ⟨q, hq, rfl⟩ := Option.map_eq_some_iff.1 hob
          rfl
        · cases hob
    | l n => cases hob
  · intro f
    unfold ownR
    refine wrap_scr f ?_
    have gen : ∀ (l : List AV) (i : Nat), (∀ v ∈ l, match v with | .uqd _ _ _ _ _ rows subs => rows.length = subs.length | .uq .. => True | .d _ => True | _ => False) → (∀ j v, l[j]? = some v → cs[i + j]? = some v) → scrPL (fun o => !(ownH cs o).isSome) (ownR1 (900 + i) l) = ownR1 (900 + i) l := by
      intro l
      induction l with
      | nil => intro i _ _; rfl
      | cons v vs ih =>
        intro i hm hg
        have h0 := hg 0 v rfl
        have hv := hm v List.mem_cons_self
        have hrest := ih (i + 1) (fun x hx => hm x (List.mem_cons_of_mem _ hx)) (fun j v hj => by rw [show i + 1 + j = i + (j + 1) from by omega]; exact hg (j + 1) v hj)
        have hnl : Nat.blt (900 + i) 900 = false := by
          cases hb : Nat.blt (900 + i) 900 with
          | false => rfl
          | true => have : 900 + i < 900 := by simpa [Nat.blt_eq] using hb
                    omega
        simp only [Nat.add_zero] at h0
        simp only [ownR1, scrPL]
        rw [show 900 + i + 1 = 900 + (i + 1) from by omega, hrest]
        congr 1
        cases v with
        | d x => rfl
        | uq e sz els =>
          have : ownH cs (.n (900 + i)) = some (.ds e sz els) := by simp only [ownH, hnl, cond_false, Nat.add_sub_cancel_left, h0]
          simp only [scrP, this, Option.isSome_some, Bool.not_true, cond_false]
        | uqd e sz c e2 sz2 rows subs =>
          have : ownH cs (.n (900 + i)) = some (.rs e sz (ownRows (900 + i) c rows subs)) := by simp only [ownH, hnl, cond_false, Nat.add_sub_cancel_left, h0]
          simp only [scrP, this, Option.isSome_some, Bool.not_true, cond_false]
        | _ => exact hv.elim
    exact gen cs 0 hok (fun j v hj => by rw [Nat.zero_add]; exact hj)
theorem jX (fn : Func) (w : World) (tmps : Array Value) (us : List Value) (hus : (fn.results.toList.mapM (sC tmps)).run E.P w = .ok us w) : (results fn tmps).run E.P w = .ok (if h : us.toArray.size = 1 then us.toArray[0] else .tuple us.toArray) w := by
 rw [sF,Array.mapM_eq_mapM_toList]
 simp only [Sem.run_bind,Sem.run_map,Sem.run_pure,hus,Result.andThen_ok]
theorem sJ (h1 : SRel E N A w0 m s a w) {B : Nat → Prop} (hB : ∀ b,A b → B b ∨ w0.heap.size ≤ b) {f : Nat} {cs : List AV} {u : Value} (hok : OwnOK cs) (hH : ∀ κ,ownH cs κ ≠ none → s.H κ = ownH cs κ)
  (hrel : VRel w (okB A s.H m w) m s.H (ownR f cs) u) : mJ w0 w B (.ownF f cs) u := by
 obtain ⟨c1,c2⟩ := own_closed hok
 have hD := h1.toH.drop (fun o => (ownH cs o).isSome)
 have heq : yI (fun o => (ownH cs o).isSome) s.H = ownH cs := by
  funext κ
  cases hq : ownH cs κ with
  |none => rw [bU (by rw [hq]; rfl)]
  |some ob =>
   rw [wW (by rw [hq]; rfl),hH κ (by rw [hq]; simp),hq]
   simp only [Option.map_some,Option.some.injEq]
   exact c1 κ ob hq
 have hv2 := hrel.scr (p := fun o => !(ownH cs o).isSome) (m' := m) (H' := yI (fun o => (ownH cs o).isSome) s.H) (fun b hb => ⟨lN (K := fun o => (ownH cs o).isSome) hb,rfl⟩) vW
 rw [heq] at hD hv2
 rw [c2] at hv2
 have hokb : ∀ b,okB A (ownH cs) m w b → okB (fun x => x < w.heap.size ∧ (B x ∨ w0.heap.size ≤ x)) (ownH cs) m w b ∧ w.heap[b]? = w.heap[b]? := fun b hb => ⟨⟨hb.1,hb.2.1,hb.1,hB b hb.2.2⟩,rfl⟩
 exact ⟨m,fun o ob hob => (hD.objs o ob hob).mono hokb (Like.refl _ _) rfl (fun _ _ => rfl),hD.inj,hv2.mono hokb (Like.refl _ _)⟩
theorem j3 (h : SRel E N A w0 m s a w) {B : Nat → Prop} (hB : ∀ b,A b → B b ∨ w0.heap.size ≤ b) (fn : Func) {R : AV → Prop} (ho : j4 E N s fn.results.toList R) :
  ∃ v r,(results fn a.tmps).run E.P w = .ok v w ∧ R r ∧ mJ w0 w B r v := by
 obtain ⟨f,cs,s1,vs,hw,hout,hl,he,hok,hH,hR⟩ := ho
 obtain ⟨m1,h1⟩ := hw A w0 m a w h
 obtain ⟨us,g1,g2,g3⟩ := vA h1 _ _ hout
 refine ⟨.tuple us.toArray,.ownF f cs,by rw [jX fn w _ _ g1,dif_neg (by simp; omega)],hR,sJ h1 hB hok hH ?_⟩
 rw [he]
 exact .tup vs us.toArray (by simp; omega) fun i c u hc hu => g3 i c u hc (by simpa using hu)
theorem j5 (h : SRel E N A w0 m s a w) {B : Nat → Prop} (hB : ∀ b,A b → B b ∨ w0.heap.size ≤ b) (fn : Func) {R : AV → Prop} (ho : jE E N s fn.results.toList R) :
  ∃ v r,(results fn a.tmps).run E.P w = .ok v w ∧ R r ∧ mJ w0 w B r v := by
 have hokall : ∀ b,okB A s.H m w b → b < w.heap.size ∧ (B b ∨ w0.heap.size ≤ b) := fun b hb => ⟨hb.1,hB b hb.2.2⟩
 have hown : true = true → ∀ o p,s.H o ≠ none → m o = some p → p.1 < w.heap.size ∧ (B p.1 ∨ w0.heap.size ≤ p.1) := fun _ o p ho hp => ⟨xQ h ho hp,.inr (own_ge h ho hp)⟩
 unfold jE at ho
 split at ho
 ·rename_i hv
  obtain ⟨us,h1,h2,h3⟩ := vA h _ _ hv
  have hl1 : us.length = 1 := by simpa using h2.symm
  obtain ⟨u,rfl⟩ : ∃ u,us = [u] := by
   match us,hl1 with
   | [u],_ => exact ⟨u,rfl⟩
  have hu : u = .slice none 0 0 := by
   have := h3 0 _ u rfl rfl
   cases this with
   |d _ _ hd => cases hd; rfl
  subst hu
  rcases ho with ho | ⟨e,sz,ho⟩
  ·exact ⟨_,_,jX fn w _ _ h1,ho,.d _ _ (.sl0 _ _)⟩
  ·exact ⟨_,_,jX fn w _ _ h1,ho,.inl ⟨rfl,rfl⟩⟩
 ·rename_i v _ hv
  rcases ho with ⟨y,hy,hR⟩ | ⟨cs,s1,hw,hout,hok,hH,hR⟩
  ·obtain ⟨us,h1,h2,h3⟩ := vA h _ _ hv
   have hl1 : us.length = 1 := by simpa using h2.symm
   obtain ⟨u,rfl⟩ : ∃ u,us = [u] := by
    match us,hl1 with
    | [u],_ => exact ⟨u,rfl⟩
   have hrel := oU h hokall (B := true) hown rfl (h3 0 v u rfl rfl) hy
   refine ⟨u,y,jX fn w _ _ h1,hR,?_⟩
   unfold mJ
   cases y <;> first | exact hrel | cases hrel
  ·obtain ⟨m1,h1⟩ := hw A w0 m a w h
   obtain ⟨us,g1,g2,g3⟩ := vA h1 _ _ hout
   have hl1 : us.length = 1 := by simpa using g2.symm
   obtain ⟨u,rfl⟩ : ∃ u,us = [u] := by
    match us,hl1 with
    | [u],_ => exact ⟨u,rfl⟩
   have hrel := g3 0 _ u rfl rfl
   exact ⟨u,.ownF 0 cs,jX fn w _ _ g1,hR,sJ h1 hB hok hH hrel⟩
 ·rename_i vs _ hne hv
  obtain ⟨ys,hys,hR⟩ := ho
  obtain ⟨us,h1,h2,h3⟩ := vA h _ _ hv
  have hl1 : us.length ≠ 1 := by
   intro he
   rw [he] at h2
   match vs,h2 with
   | [v],_ => exact hne v rfl
  refine ⟨.tuple us.toArray,.tup ys,by rw [jX fn w _ _ h1,dif_neg (by simpa using hl1)],hR,?_⟩
  obtain ⟨g1,g2⟩ := oS _ _ hys
  refine .tup ys us.toArray (by simp; omega) fun i c u hc hu => ?_
  obtain ⟨c0,h4,h5⟩ := g2 i c hc
  exact oU h hokall (B := true) hown rfl (h3 i c0 u h4 (by simpa using hu)) h5
 ·exact ho.elim
theorem a8 {A : Nat → Prop} {f : FuncId} {fn : Func} {c : Code} {as1 : List AV} {R : AV → Prop} {vs : Array Value} (hf : E.P.funcs[f]? = some fn) (hb : fn.body = some c) (hN : Nat.ble as1.length fn.ntmps = true)
  (h : AW E fn.ntmps c (retQ E fn R) (St.init as1)) (hI : E.I w) (hr : ARel w A as1 vs) :
  Calls E.P f vs w fun e w' => ∃ v,e = .returned v ∧ ∃ r,R r ∧ Below w.heap.size w w' ∧ mJ w w' A r v := by
 have hN' : as1.length ≤ fn.ntmps := Nat.le_of_ble_eq_true hN
 have hsz : vs.size ≤ fn.ntmps := by rw [← hr.1]; exact hN'
 refine calls_of_wp hf hb ?_
 have hS : SRel E fn.ntmps ⟨fun b => A b ∨ w.heap.size ≤ b,fun _ => False,fun _ => none,fun _ => none⟩ w (fun _ => none) (St.init as1) { tmps := vs ++ Array.replicate (fn.ntmps - vs.size) undef,defers := [] } w := by
  refine ⟨by simp; omega,rfl,Below.refl _ _,hI,fun i hi => ?_,fun o ob ho => by simp [St.init] at ho,fun o o' p p' ho => by simp [St.init] at ho,fun b hb => .inl (.inr hb),fun b hb => hb.elim,fun n hn => absurd rfl hn⟩
  by_cases hlt : i < as1.length
  ·have h1 : as1[i]? = some as1[i] := List.getElem?_eq_getElem hlt
   have hlv : i < vs.size := by rw [← hr.1]; exact hlt
   have := hr.2 i as1[i] vs[i] h1 (Array.getElem?_eq_getElem hlv)
   have e1 : (St.init as1).τ i = as1[i] := by simp [St.init,List.getD,h1]
   have e2 : (vs ++ Array.replicate (fn.ntmps - vs.size) undef).getD i undef = vs[i] := by
    rw [Array.getD_eq_getD_getElem?,Array.getElem?_append_left hlv,Array.getElem?_eq_getElem hlv]; rfl
   rw [e1]
   show VRel _ _ _ _ _ ((vs ++ Array.replicate (fn.ntmps - vs.size) undef).getD i undef)
   rw [e2]
   exact this.lift fun b hb => ⟨hb.1,fun o ho => by simp [St.init] at ho,.inl hb.2⟩
  ·have e1 : (St.init as1).τ i = .junk := by simp [St.init,List.getD,List.getElem?_eq_none (Nat.le_of_not_lt hlt)]
   rw [e1]; exact .junk _
 refine wp_mono (AW_sound c _ hS h) fun e a' w' hq => ?_
 cases e with
 |normal =>
  obtain ⟨m',s',hS',hk⟩ := hq
  refine ⟨hS'.defers,?_⟩
  have fin : (match jH E fn.ntmps s' fn.results.toList with | some r => kv r R | none => False) ∨ jE E fn.ntmps s' fn.results.toList R ∨ j4 E fn.ntmps s' fn.results.toList R := by
   have hk2 : (match lL E fn.ntmps s' fn.results.toList with
    |some [.agg cs] => bif yD cs then (match jH E fn.ntmps s' fn.results.toList with | some r => kv r R | none => False) ∨ jE E fn.ntmps s' fn.results.toList R
      else (match jH E fn.ntmps s' fn.results.toList with | some r => kv r R | none => jE E fn.ntmps s' fn.results.toList R)
    |some (v1 :: v2 :: vs) => bif yD (v1 :: v2 :: vs) || nF (v1 :: v2 :: vs) then (match jH E fn.ntmps s' fn.results.toList with | some r => kv r R | none => jE E fn.ntmps s' fn.results.toList R) ∨ j4 E fn.ntmps s' fn.results.toList R
      else (match jH E fn.ntmps s' fn.results.toList with | some r => kv r R | none => jE E fn.ntmps s' fn.results.toList R)
    | _ => (match jH E fn.ntmps s' fn.results.toList with | some r => kv r R | none => jE E fn.ntmps s' fn.results.toList R)) := hk
   have both : (match jH E fn.ntmps s' fn.results.toList with | some r => kv r R | none => jE E fn.ntmps s' fn.results.toList R) → (match jH E fn.ntmps s' fn.results.toList with | some r => kv r R | none => False) ∨ jE E fn.ntmps s' fn.results.toList R ∨ j4 E fn.ntmps s' fn.results.toList R := by
    intro h
    split at h
    ·exact .inl h
    ·exact .inr (.inl h)
   split at hk2
   ·rename_i cs _
    cases hq : yD cs with
    |true =>
     rw [hq] at hk2
     rcases hk2 with hk2 | hk2
     ·exact .inl hk2
     ·exact .inr (.inl hk2)
    |false => rw [hq] at hk2; exact both hk2
   ·rename_i v1 v2 vs _
    cases hq : yD (v1 :: v2 :: vs) || nF (v1 :: v2 :: vs) with
    |true =>
     rw [hq] at hk2
     rcases hk2 with hk2 | hk2
     ·exact both hk2
     ·exact .inr (.inr hk2)
    |false => rw [hq] at hk2; exact both hk2
   ·exact both hk2
  rcases fin with hk2 | hk2 | hk2
  ·split at hk2
   ·rename_i r ho
    rw [yT] at hk2
    obtain ⟨v,hv,hrr⟩ := f6 hS' (B := A) (fun b hb => hb) fn ho
    exact ⟨v,hv,v,rfl,r,hk2,hS'.below,hrr⟩
   ·exact hk2.elim
  ·obtain ⟨v,r,hv,hR,hrr⟩ := j5 hS' (B := A) (fun b hb => hb) fn hk2
   exact ⟨v,hv,v,rfl,r,hR,hS'.below,hrr⟩
  ·obtain ⟨v,r,hv,hR,hrr⟩ := j3 hS' (B := A) (fun b hb => hb) fn hk2
   exact ⟨v,hv,v,rfl,r,hR,hS'.below,hrr⟩
 |ret =>
  obtain ⟨m',s',hS',hk⟩ := hq
  refine ⟨hS'.defers,?_⟩
  have fin : (match jH E fn.ntmps s' fn.results.toList with | some r => kv r R | none => False) ∨ jE E fn.ntmps s' fn.results.toList R ∨ j4 E fn.ntmps s' fn.results.toList R := by
   have hk2 : (match lL E fn.ntmps s' fn.results.toList with
    |some [.agg cs] => bif yD cs then (match jH E fn.ntmps s' fn.results.toList with | some r => kv r R | none => False) ∨ jE E fn.ntmps s' fn.results.toList R
      else (match jH E fn.ntmps s' fn.results.toList with | some r => kv r R | none => jE E fn.ntmps s' fn.results.toList R)
    |some (v1 :: v2 :: vs) => bif yD (v1 :: v2 :: vs) || nF (v1 :: v2 :: vs) then (match jH E fn.ntmps s' fn.results.toList with | some r => kv r R | none => jE E fn.ntmps s' fn.results.toList R) ∨ j4 E fn.ntmps s' fn.results.toList R
      else (match jH E fn.ntmps s' fn.results.toList with | some r => kv r R | none => jE E fn.ntmps s' fn.results.toList R)
    | _ => (match jH E fn.ntmps s' fn.results.toList with | some r => kv r R | none => jE E fn.ntmps s' fn.results.toList R)) := hk
   have both : (match jH E fn.ntmps s' fn.results.toList with | some r => kv r R | none => jE E fn.ntmps s' fn.results.toList R) → (match jH E fn.ntmps s' fn.results.toList with | some r => kv r R | none => False) ∨ jE E fn.ntmps s' fn.results.toList R ∨ j4 E fn.ntmps s' fn.results.toList R := by
    intro h
    split at h
    ·exact .inl h
    ·exact .inr (.inl h)
   split at hk2
   ·rename_i cs _
    cases hq : yD cs with
    |true =>
     rw [hq] at hk2
     rcases hk2 with hk2 | hk2
     ·exact .inl hk2
     ·exact .inr (.inl hk2)
    |false => rw [hq] at hk2; exact both hk2
   ·rename_i v1 v2 vs _
    cases hq : yD (v1 :: v2 :: vs) || nF (v1 :: v2 :: vs) with
    |true =>
     rw [hq] at hk2
     rcases hk2 with hk2 | hk2
     ·exact both hk2
     ·exact .inr (.inr hk2)
    |false => rw [hq] at hk2; exact both hk2
   ·exact both hk2
  rcases fin with hk2 | hk2 | hk2
  ·split at hk2
   ·rename_i r ho
    rw [yT] at hk2
    obtain ⟨v,hv,hrr⟩ := f6 hS' (B := A) (fun b hb => hb) fn ho
    exact ⟨v,hv,v,rfl,r,hk2,hS'.below,hrr⟩
   ·exact hk2.elim
  ·obtain ⟨v,r,hv,hR,hrr⟩ := j5 hS' (B := A) (fun b hb => hb) fn hk2
   exact ⟨v,hv,v,rfl,r,hR,hS'.below,hrr⟩
  ·obtain ⟨v,r,hv,hR,hrr⟩ := j3 hS' (B := A) (fun b hb => hb) fn hk2
   exact ⟨v,hv,v,rfl,r,hR,hS'.below,hrr⟩
 |exit i =>
  obtain ⟨m',s',hS',hk⟩ := hq
  exact hk.elim
 |goto l => exact hq.elim
 |panic ch => exact hq.elim
 |outgrown => exact hq.elim
theorem callsTo_of_AW {f : FuncId} {fn : Func} {c : Code} {as1 : List AV} {R : AV → Prop} (hf : E.P.funcs[f]? = some fn) (hb : fn.body = some c) (hn : (fn.name == "runtime.NumGoroutine") = false) (hN : Nat.ble as1.length fn.ntmps = true)
  (h : AW E fn.ntmps c (retQ E fn R) (St.init as1)) : CallsTo E f as1 R := by
 intro w A vs hI hr
 have hrun : (callFunc f vs).run E.P w = .ok (.enter f vs) w := by
  simp only [callFunc,Sem.run_bind,run_program,Result.andThen_ok,hf,hn,hb]
  rfl
 unfold Invokes
 rw [hrun]
 exact (a8 hf hb hN h hI hr).mono fun e w' ⟨v,he,hp⟩ => ⟨v,he,hp⟩
theorem eD {fn : Func} {Post : AV → (Key → Option Ob) → Prop} (h : SRel E fn.ntmps A w0 m s a w) (ho : retIO E fn Post .ret s) :
  ∃ v,(results fn a.tmps).run E.P w = .ok v w ∧ ∃ r H1 m1,Post r H1 ∧ HRel E A w0 m1 H1 w ∧ VRel w (okB A H1 m1 w) m1 H1 r v := by
 obtain ⟨s1,hw,ho⟩ := ho
 obtain ⟨m1,h1⟩ := hw A w0 m a w h
 split at ho
 ·rename_i v hv
  obtain ⟨K,hP⟩ := ho
  obtain ⟨us,g1,g2,g3⟩ := vA h1 _ _ hv
  have hl1 : us.length = 1 := by simpa using g2.symm
  obtain ⟨u,rfl⟩ : ∃ u,us = [u] := by
   match us,hl1 with
   | [u],_ => exact ⟨u,rfl⟩
  exact ⟨u,jX fn w _ _ g1,_,_,m1,hP,h1.toH.drop K,(g3 0 _ u rfl rfl).scr (fun b hb => ⟨lN hb,rfl⟩) vW⟩
 ·rename_i vs hne hv
  obtain ⟨K,hP⟩ := ho
  obtain ⟨us,g1,g2,g3⟩ := vA h1 _ _ hv
  have hl1 : us.length ≠ 1 := by
   intro he
   rw [he] at g2
   match vs,g2 with
   | [v],_ => exact hne v rfl
  refine ⟨.tuple us.toArray,by rw [jX fn w _ _ g1,dif_neg (by simpa using hl1)],_,_,m1,hP,h1.toH.drop K,?_⟩
  refine .tup _ us.toArray (by simp; omega) fun i c u hc hu => ?_
  rw [List.getElem?_map] at hc
  obtain ⟨c0,hc0,rfl⟩ := Option.map_eq_some_iff.1 hc
  exact (g3 i c0 u hc0 (by simpa using hu)).scr (fun b hb => ⟨lN hb,rfl⟩) vW
 ·exact ho.elim
theorem io_of_AW {f : FuncId} {fn : Func} {c : Code} {as1 : List AV} {H0 : Key → Option Ob} {Post : AV → (Key → Option Ob) → Prop} (hf : E.P.funcs[f]? = some fn) (hb : fn.body = some c) (hn : (fn.name == "runtime.NumGoroutine") = false) (hN : Nat.ble as1.length fn.ntmps = true)
  (h : AW E fn.ntmps c (retIO E fn Post) ⟨fun i => as1.getD i .junk,H0⟩) : IOCall E f as1 H0 Post := by
 intro w0 A m w vs hH hl hr
 have hrun : (callFunc f vs).run E.P w = .ok (.enter f vs) w := by
  simp only [callFunc,Sem.run_bind,run_program,Result.andThen_ok,hf,hn,hb]
  rfl
 unfold Invokes
 rw [hrun]
 have hN' : as1.length ≤ fn.ntmps := Nat.le_of_ble_eq_true hN
 have hsz : vs.size ≤ fn.ntmps := by rw [← hl]; exact hN'
 refine calls_of_wp hf hb ?_
 have hS : SRel E fn.ntmps A w0 m ⟨fun i => as1.getD i .junk,H0⟩ { tmps := vs ++ Array.replicate (fn.ntmps - vs.size) undef,defers := [] } w := by
  refine ⟨by simp; omega,rfl,hH.below,hH.inv,fun i hi => ?_,hH.objs,hH.inj,hH.hA,hH.fr,hH.pin⟩
  by_cases hlt : i < as1.length
  ·have h1 : as1[i]? = some as1[i] := List.getElem?_eq_getElem hlt
   have hlv : i < vs.size := by rw [← hl]; exact hlt
   have := hr i as1[i] vs[i] h1 (Array.getElem?_eq_getElem hlv)
   have e1 : as1.getD i .junk = as1[i] := by simp [List.getD,h1]
   have e2 : (vs ++ Array.replicate (fn.ntmps - vs.size) undef).getD i undef = vs[i] := by
    rw [Array.getD_eq_getD_getElem?,Array.getElem?_append_left hlv,Array.getElem?_eq_getElem hlv]; rfl
   show VRel _ _ _ _ (as1.getD i .junk) ((vs ++ Array.replicate (fn.ntmps - vs.size) undef).getD i undef)
   rw [e1,e2]
   exact this
  ·have e1 : as1.getD i .junk = .junk := by simp [List.getD,List.getElem?_eq_none (Nat.le_of_not_lt hlt)]
   show VRel _ _ _ _ (as1.getD i .junk) _
   rw [e1]; exact .junk _
 refine wp_mono (AW_sound c _ hS h) fun e a' w' hq => ?_
 cases e with
 |normal =>
  obtain ⟨m',s',hS',hk⟩ := hq
  refine ⟨hS'.defers,?_⟩
  obtain ⟨v,hv,hp⟩ := eD hS' hk
  exact ⟨v,hv,v,rfl,hp⟩
 |ret =>
  obtain ⟨m',s',hS',hk⟩ := hq
  refine ⟨hS'.defers,?_⟩
  obtain ⟨v,hv,hp⟩ := eD hS' hk
  exact ⟨v,hv,v,rfl,hp⟩
 |exit i =>
  obtain ⟨m',s',hS',hk⟩ := hq
  exact hk.elim
 |goto l => exact hq.elim
 |panic ch => exact hq.elim
 |outgrown => exact hq.elim
end
end Ai
end
section
namespace Ai
open Go Go.RowKit
section
variable {E : Env} {N : Nat} {A : Fr} {w0 w w' : World} {m m' : Own} {s s' s1 : St} {a : Act}
def rA : List (Nat × AV) → St → St
 | [],s => s
 |(t,v) :: l,s => put (some t) v (rA l s)
def oks : List (Nat × AV) → St → Prop
 | [],_ => True
 |(t,v) :: l,s => s.τ t = v ∧ oks l s
def pY : List (Key × Ob) → St → St
 | [],s => s
 |(t,v) :: l,s => (pY l s).setH t v
def okh : List (Key × Ob) → St → Prop
 | [],_ => True
 |(t,v) :: l,s => s.H t = some v ∧ okh l s
theorem put_eq {t : Nat} {v : AV} (h : s.τ t = v) : put (some t) v s = s := by
 cases s with
 |mk τ H =>
  simp only [put,St.mk.injEq,and_true]
  funext i
  by_cases hi : i = t
  ·subst hi; rw [nbeq_self]; exact h.symm
  ·rw [nbeq_ne hi]; rfl
theorem setH_eq {t : Key} {v : Ob} (h : s.H t = some v) : s.setH t v = s := by
 cases s with
 |mk τ H =>
  simp only [St.setH,St.mk.injEq,true_and]
  funext i
  by_cases hi : i = t
  ·subst hi; rw [zD]; exact h.symm
  ·rw [zB hi]; rfl
theorem lI : ∀ {l : List (Nat × AV)},oks l s → rA l s = s
 | [],_ => rfl
 |(t,v) :: l,h => by
  simp only [rA]
  rw [lI h.2]
  exact put_eq h.1
theorem lC : ∀ {l : List (Key × Ob)},okh l s → pY l s = s
 | [],_ => rfl
 |(t,v) :: l,h => by
  simp only [pY]
  rw [lC h.2]
  exact setH_eq h.1
theorem Weak.refl : Weak E N s s := fun A w0 m a w h => ⟨m,h⟩
theorem yR {α : Type} {body : (AX → St → Prop) → St → Prop} {Q : AX → St → Prop} (l : α → List (Nat × AV)) (o : α → List (Key × Ob)) (μ : α → Nat) (pre : α → Prop) (x0 : α)
  (hw : Weak E N s s1) (h0 : oks (l x0) s1) (h1 : okh (o x0) s1) (hp : pre x0)
  (step : ∀ x τ H,pre x → body (dB (fun s' => ∃ x',pre x' ∧ μ x' < μ x ∧ oks (l x') s' ∧ okh (o x') s') Q) (rA (l x) (pY (o x) ⟨τ,H⟩))) : ALoop E N body Q s := by
 unfold ALoop
 intro R hR
 have main : ∀ n x s,μ x < n → pre x → oks (l x) s → okh (o x) s → R s := by
  intro n
  induction n with
  |zero => intro x s h; omega
  |succ n ih =>
   intro x s hn hp h0 h1
   have hs := step x s.τ s.H hp
   have e : rA (l x) (pY (o x) ⟨s.τ,s.H⟩) = s := by
    rw [show (⟨s.τ,s.H⟩ : St) = s from rfl,lC h1,lI h0]
   rw [e] at hs
   exact hR s s _ Weak.refl hs fun t ⟨x',hp',hlt,h0',h1'⟩ => ih x' t (by omega) hp' h0' h1'
 -- the first round comes behind the change
 have hs := step x0 s1.τ s1.H hp
 have e : rA (l x0) (pY (o x0) ⟨s1.τ,s1.H⟩) = s1 := by
  rw [show (⟨s1.τ,s1.H⟩ : St) = s1 from rfl,lC h1,lI h0]
 rw [e] at hs
 exact hR s s1 _ hw hs fun t ⟨x',hp',hlt,h0',h1'⟩ => main (μ x' + 1) x' t (by omega) hp' h0' h1'
theorem weak_nil (t : Nat) (κ : Key) (e : TypeId) (sz : Nat) (h : s.τ t = .d .nil) (hκ : ∀ n,κ ≠ .l n := by intro n h; cases h) : Weak E N s (put (some t) (.ref κ 0 0) (s.new κ (.ds e sz []))) := by
 intro A w0 m a w hS
 have hS1 : SRel E N A w0 (wA m κ none) (s.new κ (.ds e sz [])) a w := by
  refine hS.change κ (fun i => rfl) (fun o hne => ?_) (fun o hne => yW m _ hne) hS.below (fun Z b hb => ⟨⟨hb.1,fun o ho p hp => ?_,hb.2.2⟩,rfl⟩) (fun _ _ _ _ _ => rfl) (fun ob hob => ?_) (fun _ o hne ho p p' hp hp' => ?_) (fun n hn => absurd hn (hκ n))
  ·simp [St.new,St.setH,St.kill,zB hne]
  ·by_cases hne : o = κ
   ·subst hne; rw [zI] at hp; cases hp
   ·rw [yW m _ hne] at hp
    refine hb.2.1 o (fun hh => ho ?_) p hp
    simp [St.new,St.setH,St.kill,zB hne,hh]
  ·have : ob = .ds e sz [] := by simp [St.new,St.setH,zD,scrPO] at hob; exact hob.symm
   subst this; exact .inl ⟨zI _ _ _,rfl⟩
  ·rw [zI] at hp; cases hp
 refine ⟨wA m κ none,hS1.size,hS1.defers,hS1.below,hS1.inv,fun i hi => ?_,hS1.objs,hS1.inj,hS1.hA,hS1.fr,hS1.pin⟩
 by_cases hit : i = t
 ·subst hit
  have hv := hS.tmps i hi
  rw [h] at hv
  generalize a.tmps.getD i undef = u at hv
  simp only [put,nbeq_self,cond_true]
  cases hv with
  |d _ _ hd => cases hd with
   |nil => exact .ref0 κ e sz (by simp [St.new,St.setH,zD,scrPO]) (zI _ _ _)
 ·simp only [put,nbeq_ne hit,cond_false]
  exact hS1.tmps i hi
theorem Weak.trans {s2 : St} (h1 : Weak E N s s1) (h2 : Weak E N s1 s2) : Weak E N s s2 := fun A w0 m a w h => by
 obtain ⟨m1,h1⟩ := h1 A w0 m a w h
 exact h2 A w0 m1 a w h1
theorem aC (x y : Key) (hx : ∀ n,x ≠ .l n) (hy : ∀ n,y ≠ .l n) : Weak E N s (s.swap x y) := fun A w0 m a w h => by
 refine ⟨_,h.sw x y fun n hn hs => ?_⟩
 have e1 : swp x y (.l n) = .l n := by
  unfold swp
  rw [zB (Ne.symm (hx n)),zB (Ne.symm (hy n))]; rfl
 show some (m (swp x y (.l n))) = A.pin n
 simp only [swH,e1] at hs
 rw [e1]
 exact h.pin n hn (fun hh => hs (by rw [hh]; rfl))
theorem vD (k l : Nat) : Weak E N s (s.swap (.n k) (.n l)) := aC _ _ (fun n h => by cases h) (fun n h => by cases h)
theorem jD (k o j : Nat) : Weak E N s (s.swap (.n k) (.s o j)) := aC _ _ (fun n h => by cases h) (fun n h => by cases h)
def OwnAt (s : St) : Nat → List AV → Prop
 | _,[] => True
 |i,v :: vs => (match v with
  | .uq e sz els => s.H (.n i) = some (.ds e sz els)
  | .uqd e sz c e2 sz2 rows subs => s.H (.n i) = some (.rs e sz (ownRows i c rows subs)) ∧ ∀ j q,subs[j]? = some q → s.H (.s i j) = some (.ds e2 sz2 q)
  | _ => True) ∧ OwnAt s (i + 1) vs
theorem mX : ∀ (l : List AV) (b i : Nat) (v : AV),OwnAt s b l → l[i]? = some v → (match v with
  | .uq e sz els => s.H (.n (b + i)) = some (.ds e sz els)
  | .uqd e sz c e2 sz2 rows subs => s.H (.n (b + i)) = some (.rs e sz (ownRows (b + i) c rows subs)) ∧ ∀ j q,subs[j]? = some q → s.H (.s (b + i) j) = some (.ds e2 sz2 q)
  | _ => True)
 | [],b,i,v,_,h => by simp at h
 |x :: xs,b,0,v,ha,h => by
  simp at h; subst h
  exact ha.1
 |x :: xs,b,i + 1,v,ha,h => by
  have := mX xs (b + 1) i v ha.2 (by simpa using h)
  rw [show b + 1 + i = b + (i + 1) from by omega] at this
  exact this
theorem gJ {cs : List AV} (h : OwnAt s 900 cs) : ∀ κ,ownH cs κ ≠ none → s.H κ = ownH cs κ := by
 intro κ hκ
 have hge : ∀ kk,Nat.blt kk 900 = false → 900 ≤ kk := fun kk hlt => by
  rcases Nat.lt_or_ge kk 900 with h1 | h1
  ·have : Nat.blt kk 900 = true := by simpa [Nat.blt_eq] using h1
   rw [this] at hlt; cases hlt
  ·exact h1
 cases κ with
 |n kk =>
  cases hlt : Nat.blt kk 900 with
  |true => simp only [ownH,hlt] at hκ; exact absurd rfl hκ
  |false =>
   have g := hge kk hlt
   cases hc : cs[kk - 900]? with
   |none => simp only [ownH,hlt,cond_false,hc] at hκ; exact absurd rfl hκ
   |some v =>
    have := mX cs 900 (kk - 900) v h hc
    rw [show 900 + (kk - 900) = kk from by omega] at this
    simp only [ownH,hlt,cond_false,hc] at hκ ⊢
    cases v <;> first | exact this | exact this.1 | exact absurd rfl hκ
 |s o j =>
  cases hlt : Nat.blt o 900 with
  |true => simp only [ownH,hlt] at hκ; exact absurd rfl hκ
  |false =>
   have g := hge o hlt
   cases hc : cs[o - 900]? with
   |none => simp only [ownH,hlt,cond_false,hc] at hκ; exact absurd rfl hκ
   |some v =>
    have := mX cs 900 (o - 900) v h hc
    rw [show 900 + (o - 900) = o from by omega] at this
    simp only [ownH,hlt,cond_false,hc] at hκ ⊢
    cases v <;> first | exact absurd rfl hκ | skip
    rename_i e sz c e2 sz2 rows subs
    cases hj : subs[j]? with
    |none => simp only [hj,Option.map_none] at hκ; exact absurd rfl hκ
    |some q => simp only [hj,Option.map_some]; exact this.2 j q hj
 |l n => exact absurd rfl hκ
def fN : List (Nat × (Nat → Option Ob)) → St → St
 | [],s => s
 |(o,f) :: l,s => { fN l s with H := fun κ => match κ with | .s o' j => bif Nat.beq o' o then f j else (fN l s).H κ | κ => (fN l s).H κ }
def okf : List (Nat × (Nat → Option Ob)) → St → Prop
 | [],_ => True
 |(o,f) :: l,s => (∀ j,s.H (.s o j) = f j) ∧ okf l s
theorem rZ : ∀ {l : List (Nat × (Nat → Option Ob))},okf l s → fN l s = s
 | [],_ => rfl
 |(o,f) :: l,h => by
  simp only [fN]
  rw [rZ h.2]
  cases s with
  |mk τ H =>
   simp only [St.mk.injEq,true_and]
   funext κ
   cases κ with
   |s o' j =>
    simp only
    by_cases ho : o' = o
    ·subst ho; rw [nbeq_self]; exact (h.1 j).symm
    ·rw [nbeq_ne ho]; rfl
   |n k => rfl
   |l k => rfl
theorem aloopF {α : Type} {body : (AX → St → Prop) → St → Prop} {Q : AX → St → Prop} (l : α → List (Nat × AV)) (o : α → List (Key × Ob)) (f : α → List (Nat × (Nat → Option Ob))) (μ : α → Nat) (pre : α → Prop) (x0 : α)
  (hw : Weak E N s s1) (h0 : oks (l x0) s1) (h1 : okh (o x0) s1) (h2 : okf (f x0) s1) (hp : pre x0)
  (step : ∀ x τ H,pre x → body (dB (fun s' => ∃ x' s2,Weak E N s' s2 ∧ pre x' ∧ μ x' < μ x ∧ oks (l x') s2 ∧ okh (o x') s2 ∧ okf (f x') s2) Q) (rA (l x) (pY (o x) (fN (f x) ⟨τ,H⟩)))) : ALoop E N body Q s := by
 unfold ALoop
 intro R hR
 have main : ∀ n x s s2,μ x < n → pre x → Weak E N s s2 → oks (l x) s2 → okh (o x) s2 → okf (f x) s2 → R s := by
  intro n
  induction n with
  |zero => intro x s s2 h; omega
  |succ n ih =>
   intro x s s2 hn hp hw h0 h1 h2
   have hs := step x s2.τ s2.H hp
   have e : rA (l x) (pY (o x) (fN (f x) ⟨s2.τ,s2.H⟩)) = s2 := by
    rw [show (⟨s2.τ,s2.H⟩ : St) = s2 from rfl,rZ h2,lC h1,lI h0]
   rw [e] at hs
   exact hR s s2 _ hw hs fun t ⟨x',s3,hw',hp',hlt,h0',h1',h2'⟩ => ih x' t s3 (by omega) hp' hw' h0' h1' h2'
 exact main (μ x0 + 1) x0 s s1 (by omega) hp hw h0 h1 h2
theorem uP (o κ : Key) (e e2 : TypeId) (sz i : Nat) (cs : List AV) (hκ : ∀ n,κ ≠ .l n) (hne : o ≠ κ) (hH : s.H o = some (.vs e cs)) (hi : cs[i]? = some (.d .nil)) :
  Weak E N s (((s.kill κ).setH κ (.rs e2 sz [])).setH o (.vs e ((scrPL (isK κ) cs).set i (.dref κ 0)))) := by
 intro A w0 m a w hS
 have hS1 : SRel E N A w0 (wA m κ none) ((s.kill κ).setH κ (.rs e2 sz [])) a w := by
  refine hS.change κ (fun i => rfl) (fun o hne => ?_) (fun o hne => yW m _ hne) hS.below (fun Z b hb => ⟨⟨hb.1,fun o ho p hp => ?_,hb.2.2⟩,rfl⟩) (fun _ _ _ _ _ => rfl) (fun ob hob => ?_) (fun _ o hne ho p p' hp hp' => ?_) (fun n hn => absurd hn (hκ n))
  ·simp [St.setH,St.kill,zB hne]
  ·by_cases hne : o = κ
   ·subst hne; rw [zI] at hp; cases hp
   ·rw [yW m _ hne] at hp
    refine hb.2.1 o (fun hh => ho ?_) p hp
    simp [St.setH,St.kill,zB hne,hh]
  ·have : ob = .rs e2 sz [] := by simp [St.setH,zD] at hob; exact hob.symm
   subst this; exact .inl ⟨zI _ _ _,rfl⟩
  ·rw [zI] at hp; cases hp
 refine ⟨wA m κ none,?_⟩
 generalize hs1 : (s.kill κ).setH κ (.rs e2 sz []) = s1 at hS1
 have hH1 : s1.H o = some (.vs e (scrPL (isK κ) cs)) := by
  rw [← hs1]
  simp [St.setH,St.kill,zB hne,hH,scrPO]
 have hi1 : (scrPL (isK κ) cs)[i]? = some (.d .nil) := by rw [wS,hi]; rfl
 have hκ1 : s1.H κ = some (.rs e2 sz []) := by rw [← hs1]; simp [St.setH,zD]
 generalize scrPL (isK κ) cs = cs1 at hH1 hi1
 have hlike : Like s1.H (s1.setH o (.vs e (cs1.set i (.dref κ 0)))).H (wA m κ none) (wA m κ none) := by
  refine ⟨fun o2 e2 cs2 h2 => ?_,fun o2 e2 sz2 els2 h2 => ?_,fun o2 e2 sz2 els2 h2 => ?_,fun o2 ag2 ps2 h2 => ⟨⟨ps2,by simp [St.setH,zB (show o2 ≠ o from fun e => by subst e; rw [hH1] at h2; cases h2),h2]⟩,rfl⟩⟩
  ·by_cases h : o2 = o
   ·subst h
    rw [hH1] at h2; injection h2 with h2; injection h2 with i1 i2; subst i1
    exact ⟨⟨_,by simp [St.setH,zD]; rfl⟩,rfl⟩
   ·exact ⟨⟨cs2,by simp [St.setH,zB h,h2]⟩,rfl⟩
  ·by_cases h : o2 = o
   ·subst h; rw [hH1] at h2; injection h2 with h2; cases h2
   ·exact ⟨⟨els2,by simp [St.setH,zB h,h2],rfl⟩,rfl⟩
  ·by_cases h : o2 = o
   ·subst h; rw [hH1] at h2; injection h2 with h2; cases h2
   ·exact ⟨⟨els2,by simp [St.setH,zB h,h2],rfl⟩,rfl⟩
 obtain ⟨b,full,cur,hm,hbb,hcur,hsz,hc⟩ := hS1.objs o _ hH1
 have hok : ∀ k,okB A s1.H (wA m κ none) w k → okB A (s1.setH o (.vs e (cs1.set i (.dref κ 0)))).H (wA m κ none) w k ∧ w.heap[k]? = w.heap[k]? := by
  intro k hk
  refine ⟨⟨hk.1,fun o2 ho2 p hp => hk.2.1 o2 ?_ p hp,hk.2.2⟩,rfl⟩
  by_cases h : o2 = o
  ·subst h; simp [hH1]
  ·simpa [St.setH,zB h] using ho2
 refine hS1.update o _ (.vs e (cs1.set i (.dref κ 0))) hH1 hlike b full hm hS1.below rfl (fun _ _ => rfl) ⟨b,full,cur,hm,hbb,hcur,by simpa using hsz,fun j c hj => ?_⟩ (fun _ _ _ => ⟨_,_,rfl⟩)
 rw [List.getElem?_set] at hj
 split at hj
 ·rename_i hij
  subst hij
  split at hj
  ·injection hj with hj; subst hj
   obtain ⟨u,hu,hv⟩ := hc i _ hi1
   refine ⟨u,hu,?_⟩
   cases hv with
   |d _ _ hd => cases hd with
    |nil => exact .dref0 κ e2 sz (by simp [St.setH,zB (Ne.symm hne),hκ1]) (zI _ _ _)
  ·cases hj
 ·obtain ⟨u,hu,hv⟩ := hc j c hj
  exact ⟨u,hu,hv.mono hok hlike⟩
end
end Ai
end
section
set_option maxRecDepth 100000
namespace Ai
open Go Go.Proofs
abbrev ti2 : TI := ⟨1,false,8,[.int .i64 0],.int .i64⟩
theorem tf2 : TFact Tryz.prog 2 ti2 := ⟨⟨Tryz.t2,(match Tryz.t2.zero with | some z => z | none => undef),by kernel_rfl,by kernel_rfl,by kernel_rfl,by kernel_rfl,by kernel_rfl⟩,by kernel_rfl,by kernel_rfl,⟨Tryz.t2.desc,by kernel_rfl,by kernel_rfl⟩,(by kernel_rfl : Tryz.prog.underlying 2 = some (.int .i64))⟩
abbrev ti3 : TI := ⟨1,false,8,[.int .i64 0],.int .i64⟩
theorem tf3 : TFact Tryz.prog 3 ti3 := ⟨⟨Tryz.t3,(match Tryz.t3.zero with | some z => z | none => undef),by kernel_rfl,by kernel_rfl,by kernel_rfl,by kernel_rfl,by kernel_rfl⟩,by kernel_rfl,by kernel_rfl,⟨Tryz.t3.desc,by kernel_rfl,by kernel_rfl⟩,(by kernel_rfl : Tryz.prog.underlying 3 = some (.int .i64))⟩
abbrev ti4 : TI := ⟨1,false,1,[.bool false],.bool⟩
theorem tf4 : TFact Tryz.prog 4 ti4 := ⟨⟨Tryz.t4,(match Tryz.t4.zero with | some z => z | none => undef),by kernel_rfl,by kernel_rfl,by kernel_rfl,by kernel_rfl,by kernel_rfl⟩,by kernel_rfl,by kernel_rfl,⟨Tryz.t4.desc,by kernel_rfl,by kernel_rfl⟩,(by kernel_rfl : Tryz.prog.underlying 4 = some (.bool))⟩
abbrev ti5 : TI := ⟨1,false,1,[.int .u8 0],.int .u8⟩
theorem tf5 : TFact Tryz.prog 5 ti5 := ⟨⟨Tryz.t5,(match Tryz.t5.zero with | some z => z | none => undef),by kernel_rfl,by kernel_rfl,by kernel_rfl,by kernel_rfl,by kernel_rfl⟩,by kernel_rfl,by kernel_rfl,⟨Tryz.t5.desc,by kernel_rfl,by kernel_rfl⟩,(by kernel_rfl : Tryz.prog.underlying 5 = some (.int .u8))⟩
abbrev ti6 : TI := ⟨1,false,1,[.int .u8 0],.int .u8⟩
theorem tf6 : TFact Tryz.prog 6 ti6 := ⟨⟨Tryz.t6,(match Tryz.t6.zero with | some z => z | none => undef),by kernel_rfl,by kernel_rfl,by kernel_rfl,by kernel_rfl,by kernel_rfl⟩,by kernel_rfl,by kernel_rfl,⟨Tryz.t5.desc,by kernel_rfl,by kernel_rfl⟩,(by kernel_rfl : Tryz.prog.underlying 6 = some (.int .u8))⟩
abbrev ti7 : TI := ⟨4,true,24,[.int .i64 0,.int .i64 0,.bool false,.int .u8 0],.struct [(0,2),(1,3),(2,4),(3,6)]⟩
theorem tf7 : TFact Tryz.prog 7 ti7 := ⟨⟨Tryz.t7,(match Tryz.t7.zero with | some z => z | none => undef),by kernel_rfl,by kernel_rfl,by kernel_rfl,by kernel_rfl,by kernel_rfl⟩,by kernel_rfl,by kernel_rfl,⟨Tryz.t7.desc,by kernel_rfl,by kernel_rfl⟩,⟨(match Tryz.t7.desc with | .struct F => F | _ => #[]),by kernel_rfl,by kernel_rfl⟩⟩
abbrev ti8 : TI := ⟨4,true,24,[.int .i64 0,.int .i64 0,.bool false,.int .u8 0],.struct [(0,2),(1,3),(2,4),(3,6)]⟩
theorem tf8 : TFact Tryz.prog 8 ti8 := ⟨⟨Tryz.t8,(match Tryz.t8.zero with | some z => z | none => undef),by kernel_rfl,by kernel_rfl,by kernel_rfl,by kernel_rfl,by kernel_rfl⟩,by kernel_rfl,by kernel_rfl,⟨Tryz.t7.desc,by kernel_rfl,by kernel_rfl⟩,⟨(match Tryz.t7.desc with | .struct F => F | _ => #[]),by kernel_rfl,by kernel_rfl⟩⟩
abbrev ti9 : TI := ⟨1,false,16,[.str []],.str⟩
theorem tf9 : TFact Tryz.prog 9 ti9 := ⟨⟨Tryz.t9,(match Tryz.t9.zero with | some z => z | none => undef),by kernel_rfl,by kernel_rfl,by kernel_rfl,by kernel_rfl,by kernel_rfl⟩,by kernel_rfl,by kernel_rfl,⟨Tryz.t9.desc,by kernel_rfl,by kernel_rfl⟩,(by kernel_rfl : Tryz.prog.underlying 9 = some (.string))⟩
abbrev ti10 : TI := ⟨1,false,16,[.str []],.str⟩
theorem tf10 : TFact Tryz.prog 10 ti10 := ⟨⟨Tryz.t10,(match Tryz.t10.zero with | some z => z | none => undef),by kernel_rfl,by kernel_rfl,by kernel_rfl,by kernel_rfl,by kernel_rfl⟩,by kernel_rfl,by kernel_rfl,⟨Tryz.t9.desc,by kernel_rfl,by kernel_rfl⟩,(by kernel_rfl : Tryz.prog.underlying 10 = some (.string))⟩
abbrev ti11 : TI := ⟨1,false,16,[.str []],.str⟩
theorem tf11 : TFact Tryz.prog 11 ti11 := ⟨⟨Tryz.t11,(match Tryz.t11.zero with | some z => z | none => undef),by kernel_rfl,by kernel_rfl,by kernel_rfl,by kernel_rfl,by kernel_rfl⟩,by kernel_rfl,by kernel_rfl,⟨Tryz.t9.desc,by kernel_rfl,by kernel_rfl⟩,(by kernel_rfl : Tryz.prog.underlying 11 = some (.string))⟩
abbrev ti12 : TI := ⟨1,false,8,[.int .u64 0],.int .u64⟩
theorem tf12 : TFact Tryz.prog 12 ti12 := ⟨⟨Tryz.t12,(match Tryz.t12.zero with | some z => z | none => undef),by kernel_rfl,by kernel_rfl,by kernel_rfl,by kernel_rfl,by kernel_rfl⟩,by kernel_rfl,by kernel_rfl,⟨Tryz.t12.desc,by kernel_rfl,by kernel_rfl⟩,(by kernel_rfl : Tryz.prog.underlying 12 = some (.int .u64))⟩
abbrev ti13 : TI := ⟨2,true,24,[.str [],.int .u64 0],.struct [(0,9),(1,12)]⟩
theorem tf13 : TFact Tryz.prog 13 ti13 := ⟨⟨Tryz.t13,(match Tryz.t13.zero with | some z => z | none => undef),by kernel_rfl,by kernel_rfl,by kernel_rfl,by kernel_rfl,by kernel_rfl⟩,by kernel_rfl,by kernel_rfl,⟨Tryz.t13.desc,by kernel_rfl,by kernel_rfl⟩,⟨(match Tryz.t13.desc with | .struct F => F | _ => #[]),by kernel_rfl,by kernel_rfl⟩⟩
abbrev ti14 : TI := ⟨2,true,24,[.str [],.int .u64 0],.struct [(0,9),(1,12)]⟩
theorem tf14 : TFact Tryz.prog 14 ti14 := ⟨⟨Tryz.t14,(match Tryz.t14.zero with | some z => z | none => undef),by kernel_rfl,by kernel_rfl,by kernel_rfl,by kernel_rfl,by kernel_rfl⟩,by kernel_rfl,by kernel_rfl,⟨Tryz.t13.desc,by kernel_rfl,by kernel_rfl⟩,⟨(match Tryz.t13.desc with | .struct F => F | _ => #[]),by kernel_rfl,by kernel_rfl⟩⟩
abbrev ti21 : TI := ⟨1,false,4,[.int .i32 0],.int .i32⟩
theorem tf21 : TFact Tryz.prog 21 ti21 := ⟨⟨Tryz.t21,(match Tryz.t21.zero with | some z => z | none => undef),by kernel_rfl,by kernel_rfl,by kernel_rfl,by kernel_rfl,by kernel_rfl⟩,by kernel_rfl,by kernel_rfl,⟨Tryz.t21.desc,by kernel_rfl,by kernel_rfl⟩,(by kernel_rfl : Tryz.prog.underlying 21 = some (.int .i32))⟩
abbrev ti22 : TI := ⟨1,false,24,[.nil],.slice 103⟩
theorem tf22 : TFact Tryz.prog 22 ti22 := ⟨⟨Tryz.t22,(match Tryz.t22.zero with | some z => z | none => undef),by kernel_rfl,by kernel_rfl,by kernel_rfl,by kernel_rfl,by kernel_rfl⟩,by kernel_rfl,by kernel_rfl,⟨Tryz.t22.desc,by kernel_rfl,by kernel_rfl⟩,(by kernel_rfl : Tryz.prog.underlying 22 = some (.slice 103))⟩
abbrev ti23 : TI := ⟨4,true,48,[.int .i64 0,.int .i64 0,.int .i64 0,.nil],.struct [(0,3),(1,3),(2,3),(3,22)]⟩
theorem tf23 : TFact Tryz.prog 23 ti23 := ⟨⟨Tryz.t23,(match Tryz.t23.zero with | some z => z | none => undef),by kernel_rfl,by kernel_rfl,by kernel_rfl,by kernel_rfl,by kernel_rfl⟩,by kernel_rfl,by kernel_rfl,⟨Tryz.t23.desc,by kernel_rfl,by kernel_rfl⟩,⟨(match Tryz.t23.desc with | .struct F => F | _ => #[]),by kernel_rfl,by kernel_rfl⟩⟩
abbrev ti24 : TI := ⟨4,true,48,[.int .i64 0,.int .i64 0,.int .i64 0,.nil],.struct [(0,3),(1,3),(2,3),(3,22)]⟩
theorem tf24 : TFact Tryz.prog 24 ti24 := ⟨⟨Tryz.t24,(match Tryz.t24.zero with | some z => z | none => undef),by kernel_rfl,by kernel_rfl,by kernel_rfl,by kernel_rfl,by kernel_rfl⟩,by kernel_rfl,by kernel_rfl,⟨Tryz.t23.desc,by kernel_rfl,by kernel_rfl⟩,⟨(match Tryz.t23.desc with | .struct F => F | _ => #[]),by kernel_rfl,by kernel_rfl⟩⟩
abbrev ti25 : TI := ⟨1,false,24,[.nil],.slice 3⟩
theorem tf25 : TFact Tryz.prog 25 ti25 := ⟨⟨Tryz.t25,(match Tryz.t25.zero with | some z => z | none => undef),by kernel_rfl,by kernel_rfl,by kernel_rfl,by kernel_rfl,by kernel_rfl⟩,by kernel_rfl,by kernel_rfl,⟨Tryz.t25.desc,by kernel_rfl,by kernel_rfl⟩,(by kernel_rfl : Tryz.prog.underlying 25 = some (.slice 3))⟩
abbrev ti29 : TI := ⟨1,false,24,[.nil],.slice 104⟩
theorem tf29 : TFact Tryz.prog 29 ti29 := ⟨⟨Tryz.t29,(match Tryz.t29.zero with | some z => z | none => undef),by kernel_rfl,by kernel_rfl,by kernel_rfl,by kernel_rfl,by kernel_rfl⟩,by kernel_rfl,by kernel_rfl,⟨Tryz.t29.desc,by kernel_rfl,by kernel_rfl⟩,(by kernel_rfl : Tryz.prog.underlying 29 = some (.slice 104))⟩
abbrev ti30 : TI := ⟨4,true,48,[.int .i64 0,.int .i64 0,.int .i64 0,.nil],.struct [(0,3),(1,3),(2,3),(3,29)]⟩
theorem tf30 : TFact Tryz.prog 30 ti30 := ⟨⟨Tryz.t30,(match Tryz.t30.zero with | some z => z | none => undef),by kernel_rfl,by kernel_rfl,by kernel_rfl,by kernel_rfl,by kernel_rfl⟩,by kernel_rfl,by kernel_rfl,⟨Tryz.t30.desc,by kernel_rfl,by kernel_rfl⟩,⟨(match Tryz.t30.desc with | .struct F => F | _ => #[]),by kernel_rfl,by kernel_rfl⟩⟩
abbrev ti31 : TI := ⟨4,true,48,[.int .i64 0,.int .i64 0,.int .i64 0,.nil],.struct [(0,3),(1,3),(2,3),(3,29)]⟩
theorem tf31 : TFact Tryz.prog 31 ti31 := ⟨⟨Tryz.t31,(match Tryz.t31.zero with | some z => z | none => undef),by kernel_rfl,by kernel_rfl,by kernel_rfl,by kernel_rfl,by kernel_rfl⟩,by kernel_rfl,by kernel_rfl,⟨Tryz.t30.desc,by kernel_rfl,by kernel_rfl⟩,⟨(match Tryz.t30.desc with | .struct F => F | _ => #[]),by kernel_rfl,by kernel_rfl⟩⟩
abbrev ti49 : TI := ⟨2,true,40,[.str [],.nil],.struct [(0,9),(1,25)]⟩
theorem tf49 : TFact Tryz.prog 49 ti49 := ⟨⟨Tryz.t49,(match Tryz.t49.zero with | some z => z | none => undef),by kernel_rfl,by kernel_rfl,by kernel_rfl,by kernel_rfl,by kernel_rfl⟩,by kernel_rfl,by kernel_rfl,⟨Tryz.t49.desc,by kernel_rfl,by kernel_rfl⟩,⟨(match Tryz.t49.desc with | .struct F => F | _ => #[]),by kernel_rfl,by kernel_rfl⟩⟩
abbrev ti50 : TI := ⟨2,true,40,[.str [],.nil],.struct [(0,9),(1,25)]⟩
theorem tf50 : TFact Tryz.prog 50 ti50 := ⟨⟨Tryz.t50,(match Tryz.t50.zero with | some z => z | none => undef),by kernel_rfl,by kernel_rfl,by kernel_rfl,by kernel_rfl,by kernel_rfl⟩,by kernel_rfl,by kernel_rfl,⟨Tryz.t49.desc,by kernel_rfl,by kernel_rfl⟩,⟨(match Tryz.t49.desc with | .struct F => F | _ => #[]),by kernel_rfl,by kernel_rfl⟩⟩
abbrev ti53 : TI := ⟨2,true,40,[.str [],.nil],.struct [(0,9),(1,25)]⟩
theorem tf53 : TFact Tryz.prog 53 ti53 := ⟨⟨Tryz.t53,(match Tryz.t53.zero with | some z => z | none => undef),by kernel_rfl,by kernel_rfl,by kernel_rfl,by kernel_rfl,by kernel_rfl⟩,by kernel_rfl,by kernel_rfl,⟨Tryz.t49.desc,by kernel_rfl,by kernel_rfl⟩,⟨(match Tryz.t49.desc with | .struct F => F | _ => #[]),by kernel_rfl,by kernel_rfl⟩⟩
abbrev ti67 : TI := ⟨1,false,24,[.nil],.slice 70⟩
theorem tf67 : TFact Tryz.prog 67 ti67 := ⟨⟨Tryz.t67,(match Tryz.t67.zero with | some z => z | none => undef),by kernel_rfl,by kernel_rfl,by kernel_rfl,by kernel_rfl,by kernel_rfl⟩,by kernel_rfl,by kernel_rfl,⟨Tryz.t67.desc,by kernel_rfl,by kernel_rfl⟩,(by kernel_rfl : Tryz.prog.underlying 67 = some (.slice 70))⟩
abbrev ti69 : TI := ⟨2,true,48,[.nil,.nil],.struct [(0,25),(1,25)]⟩
theorem tf69 : TFact Tryz.prog 69 ti69 := ⟨⟨Tryz.t69,(match Tryz.t69.zero with | some z => z | none => undef),by kernel_rfl,by kernel_rfl,by kernel_rfl,by kernel_rfl,by kernel_rfl⟩,by kernel_rfl,by kernel_rfl,⟨Tryz.t69.desc,by kernel_rfl,by kernel_rfl⟩,⟨(match Tryz.t69.desc with | .struct F => F | _ => #[]),by kernel_rfl,by kernel_rfl⟩⟩
abbrev ti70 : TI := ⟨2,true,48,[.nil,.nil],.struct [(0,25),(1,25)]⟩
theorem tf70 : TFact Tryz.prog 70 ti70 := ⟨⟨Tryz.t70,(match Tryz.t70.zero with | some z => z | none => undef),by kernel_rfl,by kernel_rfl,by kernel_rfl,by kernel_rfl,by kernel_rfl⟩,by kernel_rfl,by kernel_rfl,⟨Tryz.t69.desc,by kernel_rfl,by kernel_rfl⟩,⟨(match Tryz.t69.desc with | .struct F => F | _ => #[]),by kernel_rfl,by kernel_rfl⟩⟩
abbrev ti72 : TI := ⟨1,false,24,[.nil],.slice 120⟩
theorem tf72 : TFact Tryz.prog 72 ti72 := ⟨⟨Tryz.t72,(match Tryz.t72.zero with | some z => z | none => undef),by kernel_rfl,by kernel_rfl,by kernel_rfl,by kernel_rfl,by kernel_rfl⟩,by kernel_rfl,by kernel_rfl,⟨Tryz.t72.desc,by kernel_rfl,by kernel_rfl⟩,(by kernel_rfl : Tryz.prog.underlying 72 = some (.slice 120))⟩
abbrev ti73 : TI := ⟨1,false,24,[.nil],.slice 123⟩
theorem tf73 : TFact Tryz.prog 73 ti73 := ⟨⟨Tryz.t73,(match Tryz.t73.zero with | some z => z | none => undef),by kernel_rfl,by kernel_rfl,by kernel_rfl,by kernel_rfl,by kernel_rfl⟩,by kernel_rfl,by kernel_rfl,⟨Tryz.t73.desc,by kernel_rfl,by kernel_rfl⟩,(by kernel_rfl : Tryz.prog.underlying 73 = some (.slice 123))⟩
abbrev ti74 : TI := ⟨1,false,24,[.nil],.slice 105⟩
theorem tf74 : TFact Tryz.prog 74 ti74 := ⟨⟨Tryz.t74,(match Tryz.t74.zero with | some z => z | none => undef),by kernel_rfl,by kernel_rfl,by kernel_rfl,by kernel_rfl,by kernel_rfl⟩,by kernel_rfl,by kernel_rfl,⟨Tryz.t74.desc,by kernel_rfl,by kernel_rfl⟩,(by kernel_rfl : Tryz.prog.underlying 74 = some (.slice 105))⟩
abbrev ti75 : TI := ⟨4,true,80,[.nil,.nil,.nil,.int .i64 0],.struct [(0,73),(1,74),(2,25),(3,3)]⟩
theorem tf75 : TFact Tryz.prog 75 ti75 := ⟨⟨Tryz.t75,(match Tryz.t75.zero with | some z => z | none => undef),by kernel_rfl,by kernel_rfl,by kernel_rfl,by kernel_rfl,by kernel_rfl⟩,by kernel_rfl,by kernel_rfl,⟨Tryz.t75.desc,by kernel_rfl,by kernel_rfl⟩,⟨(match Tryz.t75.desc with | .struct F => F | _ => #[]),by kernel_rfl,by kernel_rfl⟩⟩
abbrev ti76 : TI := ⟨4,true,80,[.nil,.nil,.nil,.int .i64 0],.struct [(0,73),(1,74),(2,25),(3,3)]⟩
theorem tf76 : TFact Tryz.prog 76 ti76 := ⟨⟨Tryz.t76,(match Tryz.t76.zero with | some z => z | none => undef),by kernel_rfl,by kernel_rfl,by kernel_rfl,by kernel_rfl,by kernel_rfl⟩,by kernel_rfl,by kernel_rfl,⟨Tryz.t75.desc,by kernel_rfl,by kernel_rfl⟩,⟨(match Tryz.t75.desc with | .struct F => F | _ => #[]),by kernel_rfl,by kernel_rfl⟩⟩
abbrev ti77 : TI := ⟨7,true,136,[.int .i64 0,.nil,.nil,.nil,.nil,.nil,.int .i64 0],.struct [(0,3),(1,72),(2,25),(3,76)]⟩
theorem tf77 : TFact Tryz.prog 77 ti77 := ⟨⟨Tryz.t77,(match Tryz.t77.zero with | some z => z | none => undef),by kernel_rfl,by kernel_rfl,by kernel_rfl,by kernel_rfl,by kernel_rfl⟩,by kernel_rfl,by kernel_rfl,⟨Tryz.t77.desc,by kernel_rfl,by kernel_rfl⟩,⟨(match Tryz.t77.desc with | .struct F => F | _ => #[]),by kernel_rfl,by kernel_rfl⟩⟩
abbrev ti78 : TI := ⟨7,true,136,[.int .i64 0,.nil,.nil,.nil,.nil,.nil,.int .i64 0],.struct [(0,3),(1,72),(2,25),(3,76)]⟩
theorem tf78 : TFact Tryz.prog 78 ti78 := ⟨⟨Tryz.t78,(match Tryz.t78.zero with | some z => z | none => undef),by kernel_rfl,by kernel_rfl,by kernel_rfl,by kernel_rfl,by kernel_rfl⟩,by kernel_rfl,by kernel_rfl,⟨Tryz.t77.desc,by kernel_rfl,by kernel_rfl⟩,⟨(match Tryz.t77.desc with | .struct F => F | _ => #[]),by kernel_rfl,by kernel_rfl⟩⟩
abbrev ti88 : TI := ⟨1,false,24,[.nil],.slice 25⟩
theorem tf88 : TFact Tryz.prog 88 ti88 := ⟨⟨Tryz.t88,(match Tryz.t88.zero with | some z => z | none => undef),by kernel_rfl,by kernel_rfl,by kernel_rfl,by kernel_rfl,by kernel_rfl⟩,by kernel_rfl,by kernel_rfl,⟨Tryz.t88.desc,by kernel_rfl,by kernel_rfl⟩,(by kernel_rfl : Tryz.prog.underlying 88 = some (.slice 25))⟩
abbrev ti89 : TI := ⟨1,false,24,[.nil],.slice 72⟩
theorem tf89 : TFact Tryz.prog 89 ti89 := ⟨⟨Tryz.t89,(match Tryz.t89.zero with | some z => z | none => undef),by kernel_rfl,by kernel_rfl,by kernel_rfl,by kernel_rfl,by kernel_rfl⟩,by kernel_rfl,by kernel_rfl,⟨Tryz.t89.desc,by kernel_rfl,by kernel_rfl⟩,(by kernel_rfl : Tryz.prog.underlying 89 = some (.slice 72))⟩
abbrev ti90 : TI := ⟨1,false,24,[.nil],.slice 9⟩
theorem tf90 : TFact Tryz.prog 90 ti90 := ⟨⟨Tryz.t90,(match Tryz.t90.zero with | some z => z | none => undef),by kernel_rfl,by kernel_rfl,by kernel_rfl,by kernel_rfl,by kernel_rfl⟩,by kernel_rfl,by kernel_rfl,⟨Tryz.t90.desc,by kernel_rfl,by kernel_rfl⟩,(by kernel_rfl : Tryz.prog.underlying 90 = some (.slice 9))⟩
abbrev ti91 : TI := ⟨10,true,144,[.int .i64 0,.int .i64 0,.int .i64 0,.nil,.int .i64 0,.bool false,.nil,.nil,.nil,.bool false],.struct [(0,31),(4,3),(5,4),(6,88),(7,89),(8,90),(9,4)]⟩
theorem tf91 : TFact Tryz.prog 91 ti91 := ⟨⟨Tryz.t91,(match Tryz.t91.zero with | some z => z | none => undef),by kernel_rfl,by kernel_rfl,by kernel_rfl,by kernel_rfl,by kernel_rfl⟩,by kernel_rfl,by kernel_rfl,⟨Tryz.t91.desc,by kernel_rfl,by kernel_rfl⟩,⟨(match Tryz.t91.desc with | .struct F => F | _ => #[]),by kernel_rfl,by kernel_rfl⟩⟩
abbrev ti92 : TI := ⟨10,true,144,[.int .i64 0,.int .i64 0,.int .i64 0,.nil,.int .i64 0,.bool false,.nil,.nil,.nil,.bool false],.struct [(0,31),(4,3),(5,4),(6,88),(7,89),(8,90),(9,4)]⟩
theorem tf92 : TFact Tryz.prog 92 ti92 := ⟨⟨Tryz.t92,(match Tryz.t92.zero with | some z => z | none => undef),by kernel_rfl,by kernel_rfl,by kernel_rfl,by kernel_rfl,by kernel_rfl⟩,by kernel_rfl,by kernel_rfl,⟨Tryz.t91.desc,by kernel_rfl,by kernel_rfl⟩,⟨(match Tryz.t91.desc with | .struct F => F | _ => #[]),by kernel_rfl,by kernel_rfl⟩⟩
abbrev ti93 : TI := ⟨1,false,24,[.nil],.slice 78⟩
theorem tf93 : TFact Tryz.prog 93 ti93 := ⟨⟨Tryz.t93,(match Tryz.t93.zero with | some z => z | none => undef),by kernel_rfl,by kernel_rfl,by kernel_rfl,by kernel_rfl,by kernel_rfl⟩,by kernel_rfl,by kernel_rfl,⟨Tryz.t93.desc,by kernel_rfl,by kernel_rfl⟩,(by kernel_rfl : Tryz.prog.underlying 93 = some (.slice 78))⟩
abbrev ti103 : TI := ⟨1,false,24,[.nil],.slice 151⟩
theorem tf103 : TFact Tryz.prog 103 ti103 := ⟨⟨Tryz.t103,(match Tryz.t103.zero with | some z => z | none => undef),by kernel_rfl,by kernel_rfl,by kernel_rfl,by kernel_rfl,by kernel_rfl⟩,by kernel_rfl,by kernel_rfl,⟨Tryz.t103.desc,by kernel_rfl,by kernel_rfl⟩,(by kernel_rfl : Tryz.prog.underlying 103 = some (.slice 151))⟩
abbrev ti104 : TI := ⟨1,false,24,[.nil],.slice 107⟩
theorem tf104 : TFact Tryz.prog 104 ti104 := ⟨⟨Tryz.t104,(match Tryz.t104.zero with | some z => z | none => undef),by kernel_rfl,by kernel_rfl,by kernel_rfl,by kernel_rfl,by kernel_rfl⟩,by kernel_rfl,by kernel_rfl,⟨Tryz.t104.desc,by kernel_rfl,by kernel_rfl⟩,(by kernel_rfl : Tryz.prog.underlying 104 = some (.slice 107))⟩
abbrev ti105 : TI := ⟨1,false,8,[.flt 0],.flt⟩
theorem tf105 : TFact Tryz.prog 105 ti105 := ⟨⟨Tryz.t105,(match Tryz.t105.zero with | some z => z | none => undef),by kernel_rfl,by kernel_rfl,by kernel_rfl,by kernel_rfl,by kernel_rfl⟩,by kernel_rfl,by kernel_rfl,⟨Tryz.t105.desc,by kernel_rfl,by kernel_rfl⟩,(by kernel_rfl : Tryz.prog.underlying 105 = some (.float .f64))⟩
abbrev ti106 : TI := ⟨4,true,32,[.int .i64 0,.int .i64 0,.int .i64 0,.flt 0],.struct [(0,3),(1,3),(2,3),(3,105)]⟩
theorem tf106 : TFact Tryz.prog 106 ti106 := ⟨⟨Tryz.t106,(match Tryz.t106.zero with | some z => z | none => undef),by kernel_rfl,by kernel_rfl,by kernel_rfl,by kernel_rfl,by kernel_rfl⟩,by kernel_rfl,by kernel_rfl,⟨Tryz.t106.desc,by kernel_rfl,by kernel_rfl⟩,⟨(match Tryz.t106.desc with | .struct F => F | _ => #[]),by kernel_rfl,by kernel_rfl⟩⟩
abbrev ti107 : TI := ⟨4,true,32,[.int .i64 0,.int .i64 0,.int .i64 0,.flt 0],.struct [(0,3),(1,3),(2,3),(3,105)]⟩
theorem tf107 : TFact Tryz.prog 107 ti107 := ⟨⟨Tryz.t107,(match Tryz.t107.zero with | some z => z | none => undef),by kernel_rfl,by kernel_rfl,by kernel_rfl,by kernel_rfl,by kernel_rfl⟩,by kernel_rfl,by kernel_rfl,⟨Tryz.t106.desc,by kernel_rfl,by kernel_rfl⟩,⟨(match Tryz.t106.desc with | .struct F => F | _ => #[]),by kernel_rfl,by kernel_rfl⟩⟩
abbrev ti119 : TI := ⟨5,true,40,[.int .i64 0,.int .i64 0,.int .i64 0,.int .i64 0,.int .i64 0],.struct [(0,3),(1,3),(2,3),(3,3),(4,3)]⟩
theorem tf119 : TFact Tryz.prog 119 ti119 := ⟨⟨Tryz.t119,(match Tryz.t119.zero with | some z => z | none => undef),by kernel_rfl,by kernel_rfl,by kernel_rfl,by kernel_rfl,by kernel_rfl⟩,by kernel_rfl,by kernel_rfl,⟨Tryz.t119.desc,by kernel_rfl,by kernel_rfl⟩,⟨(match Tryz.t119.desc with | .struct F => F | _ => #[]),by kernel_rfl,by kernel_rfl⟩⟩
abbrev ti120 : TI := ⟨5,true,40,[.int .i64 0,.int .i64 0,.int .i64 0,.int .i64 0,.int .i64 0],.struct [(0,3),(1,3),(2,3),(3,3),(4,3)]⟩
theorem tf120 : TFact Tryz.prog 120 ti120 := ⟨⟨Tryz.t120,(match Tryz.t120.zero with | some z => z | none => undef),by kernel_rfl,by kernel_rfl,by kernel_rfl,by kernel_rfl,by kernel_rfl⟩,by kernel_rfl,by kernel_rfl,⟨Tryz.t119.desc,by kernel_rfl,by kernel_rfl⟩,⟨(match Tryz.t119.desc with | .struct F => F | _ => #[]),by kernel_rfl,by kernel_rfl⟩⟩
abbrev ti122 : TI := ⟨6,true,64,[.int .i64 0,.int .i64 0,.int .i64 0,.int .i64 0,.int .i64 0,.nil],.struct [(0,3),(1,3),(2,3),(3,3),(4,3),(5,74)]⟩
theorem tf122 : TFact Tryz.prog 122 ti122 := ⟨⟨Tryz.t122,(match Tryz.t122.zero with | some z => z | none => undef),by kernel_rfl,by kernel_rfl,by kernel_rfl,by kernel_rfl,by kernel_rfl⟩,by kernel_rfl,by kernel_rfl,⟨Tryz.t122.desc,by kernel_rfl,by kernel_rfl⟩,⟨(match Tryz.t122.desc with | .struct F => F | _ => #[]),by kernel_rfl,by kernel_rfl⟩⟩
abbrev ti123 : TI := ⟨6,true,64,[.int .i64 0,.int .i64 0,.int .i64 0,.int .i64 0,.int .i64 0,.nil],.struct [(0,3),(1,3),(2,3),(3,3),(4,3),(5,74)]⟩
theorem tf123 : TFact Tryz.prog 123 ti123 := ⟨⟨Tryz.t123,(match Tryz.t123.zero with | some z => z | none => undef),by kernel_rfl,by kernel_rfl,by kernel_rfl,by kernel_rfl,by kernel_rfl⟩,by kernel_rfl,by kernel_rfl,⟨Tryz.t122.desc,by kernel_rfl,by kernel_rfl⟩,⟨(match Tryz.t122.desc with | .struct F => F | _ => #[]),by kernel_rfl,by kernel_rfl⟩⟩
abbrev ti142 : TI := ⟨7,true,88,[.int .i64 0,.int .i64 0,.int .i64 0,.nil,.int .i64 0,.nil,.bool false],.struct [(0,31),(4,3),(5,93),(6,4)]⟩
theorem tf142 : TFact Tryz.prog 142 ti142 := ⟨⟨Tryz.t142,(match Tryz.t142.zero with | some z => z | none => undef),by kernel_rfl,by kernel_rfl,by kernel_rfl,by kernel_rfl,by kernel_rfl⟩,by kernel_rfl,by kernel_rfl,⟨Tryz.t142.desc,by kernel_rfl,by kernel_rfl⟩,⟨(match Tryz.t142.desc with | .struct F => F | _ => #[]),by kernel_rfl,by kernel_rfl⟩⟩
abbrev ti143 : TI := ⟨7,true,88,[.int .i64 0,.int .i64 0,.int .i64 0,.nil,.int .i64 0,.nil,.bool false],.struct [(0,31),(4,3),(5,93),(6,4)]⟩
theorem tf143 : TFact Tryz.prog 143 ti143 := ⟨⟨Tryz.t143,(match Tryz.t143.zero with | some z => z | none => undef),by kernel_rfl,by kernel_rfl,by kernel_rfl,by kernel_rfl,by kernel_rfl⟩,by kernel_rfl,by kernel_rfl,⟨Tryz.t142.desc,by kernel_rfl,by kernel_rfl⟩,⟨(match Tryz.t142.desc with | .struct F => F | _ => #[]),by kernel_rfl,by kernel_rfl⟩⟩
abbrev ti151 : TI := ⟨4,true,32,[.int .i64 0,.int .i64 0,.int .i64 0,.flt 0],.struct [(0,3),(1,3),(2,3),(3,105)]⟩
theorem tf151 : TFact Tryz.prog 151 ti151 := ⟨⟨Tryz.t151,(match Tryz.t151.zero with | some z => z | none => undef),by kernel_rfl,by kernel_rfl,by kernel_rfl,by kernel_rfl,by kernel_rfl⟩,by kernel_rfl,by kernel_rfl,⟨Tryz.t106.desc,by kernel_rfl,by kernel_rfl⟩,⟨(match Tryz.t106.desc with | .struct F => F | _ => #[]),by kernel_rfl,by kernel_rfl⟩⟩
abbrev ti157 : TI := ⟨1,false,24,[.nil],.slice 5⟩
theorem tf157 : TFact Tryz.prog 157 ti157 := ⟨⟨Tryz.t157,(match Tryz.t157.zero with | some z => z | none => undef),by kernel_rfl,by kernel_rfl,by kernel_rfl,by kernel_rfl,by kernel_rfl⟩,by kernel_rfl,by kernel_rfl,⟨Tryz.t157.desc,by kernel_rfl,by kernel_rfl⟩,(by kernel_rfl : Tryz.prog.underlying 157 = some (.slice 5))⟩
abbrev ti168 : TI := ⟨100,true,800,[.int .i64 0,.int .i64 0,.int .i64 0,.int .i64 0,.int .i64 0,.int .i64 0,.int .i64 0,.int .i64 0,.int .i64 0,.int .i64 0,.int .i64 0,.int .i64 0,.int .i64 0,.int .i64 0,.int .i64 0,.int .i64 0,.int .i64 0,.int .i64 0,.int .i64 0,.int .i64 0,.int .i64 0,.int .i64 0,.int .i64 0,.int .i64 0,.int .i64 0,.int .i64 0,.int .i64 0,.int .i64 0,.int .i64 0,.int .i64 0,.int .i64 0,.int .i64 0,.int .i64 0,.int .i64 0,.int .i64 0,.int .i64 0,.int .i64 0,.int .i64 0,.int .i64 0,.int .i64 0,.int .i64 0,.int .i64 0,.int .i64 0,.int .i64 0,.int .i64 0,.int .i64 0,.int .i64 0,.int .i64 0,.int .i64 0,.int .i64 0,.int .i64 0,.int .i64 0,.int .i64 0,.int .i64 0,.int .i64 0,.int .i64 0,.int .i64 0,.int .i64 0,.int .i64 0,.int .i64 0,.int .i64 0,.int .i64 0,.int .i64 0,.int .i64 0,.int .i64 0,.int .i64 0,.int .i64 0,.int .i64 0,.int .i64 0,.int .i64 0,.int .i64 0,.int .i64 0,.int .i64 0,.int .i64 0,.int .i64 0,.int .i64 0,.int .i64 0,.int .i64 0,.int .i64 0,.int .i64 0,.int .i64 0,.int .i64 0,.int .i64 0,.int .i64 0,.int .i64 0,.int .i64 0,.int .i64 0,.int .i64 0,.int .i64 0,.int .i64 0,.int .i64 0,.int .i64 0,.int .i64 0,.int .i64 0,.int .i64 0,.int .i64 0,.int .i64 0,.int .i64 0,.int .i64 0,.int .i64 0],.array 100 3⟩
theorem tf168 : TFact Tryz.prog 168 ti168 := ⟨⟨Tryz.t168,(match Tryz.t168.zero with | some z => z | none => undef),by kernel_rfl,by kernel_rfl,by kernel_rfl,by kernel_rfl,by kernel_rfl⟩,by kernel_rfl,by kernel_rfl,⟨Tryz.t168.desc,by kernel_rfl,by kernel_rfl⟩,(by kernel_rfl : Tryz.prog.underlying 168 = some (.array 100 3))⟩
abbrev ti177 : TI := ⟨1,false,24,[.nil],.slice 3⟩
theorem tf177 : TFact Tryz.prog 177 ti177 := ⟨⟨Tryz.t177,(match Tryz.t177.zero with | some z => z | none => undef),by kernel_rfl,by kernel_rfl,by kernel_rfl,by kernel_rfl,by kernel_rfl⟩,by kernel_rfl,by kernel_rfl,⟨Tryz.t25.desc,by kernel_rfl,by kernel_rfl⟩,(by kernel_rfl : Tryz.prog.underlying 177 = some (.slice 3))⟩
abbrev ti223 : TI := ⟨1,false,8,[.int .u64 0],.int .u64⟩
theorem tf223 : TFact Tryz.prog 223 ti223 := ⟨⟨Tryz.t223,(match Tryz.t223.zero with | some z => z | none => undef),by kernel_rfl,by kernel_rfl,by kernel_rfl,by kernel_rfl,by kernel_rfl⟩,by kernel_rfl,by kernel_rfl,⟨Tryz.t223.desc,by kernel_rfl,by kernel_rfl⟩,(by kernel_rfl : Tryz.prog.underlying 223 = some (.int .u64))⟩
abbrev ti227 : TI := ⟨24,true,24,[.int .u8 0,.int .u8 0,.int .u8 0,.int .u8 0,.int .u8 0,.int .u8 0,.int .u8 0,.int .u8 0,.int .u8 0,.int .u8 0,.int .u8 0,.int .u8 0,.int .u8 0,.int .u8 0,.int .u8 0,.int .u8 0,.int .u8 0,.int .u8 0,.int .u8 0,.int .u8 0,.int .u8 0,.int .u8 0,.int .u8 0,.int .u8 0],.array 24 5⟩
theorem tf227 : TFact Tryz.prog 227 ti227 := ⟨⟨Tryz.t227,(match Tryz.t227.zero with | some z => z | none => undef),by kernel_rfl,by kernel_rfl,by kernel_rfl,by kernel_rfl,by kernel_rfl⟩,by kernel_rfl,by kernel_rfl,⟨Tryz.t227.desc,by kernel_rfl,by kernel_rfl⟩,(by kernel_rfl : Tryz.prog.underlying 227 = some (.array 24 5))⟩
abbrev ti236 : TI := ⟨1,false,8,[.int .u64 0],.int .u64⟩
theorem tf236 : TFact Tryz.prog 236 ti236 := ⟨⟨Tryz.t236,(match Tryz.t236.zero with | some z => z | none => undef),by kernel_rfl,by kernel_rfl,by kernel_rfl,by kernel_rfl,by kernel_rfl⟩,by kernel_rfl,by kernel_rfl,⟨Tryz.t236.desc,by kernel_rfl,by kernel_rfl⟩,(by kernel_rfl : Tryz.prog.underlying 236 = some (.int .u64))⟩
abbrev ti242 : TI := ⟨20,true,160,[.int .u64 0,.int .u64 0,.int .u64 0,.int .u64 0,.int .u64 0,.int .u64 0,.int .u64 0,.int .u64 0,.int .u64 0,.int .u64 0,.int .u64 0,.int .u64 0,.int .u64 0,.int .u64 0,.int .u64 0,.int .u64 0,.int .u64 0,.int .u64 0,.int .u64 0,.int .u64 0],.array 20 223⟩
theorem tf242 : TFact Tryz.prog 242 ti242 := ⟨⟨Tryz.t242,(match Tryz.t242.zero with | some z => z | none => undef),by kernel_rfl,by kernel_rfl,by kernel_rfl,by kernel_rfl,by kernel_rfl⟩,by kernel_rfl,by kernel_rfl,⟨Tryz.t242.desc,by kernel_rfl,by kernel_rfl⟩,(by kernel_rfl : Tryz.prog.underlying 242 = some (.array 20 223))⟩
abbrev ti243 : TI := ⟨1,false,4,[.int .u32 0],.int .u32⟩
theorem tf243 : TFact Tryz.prog 243 ti243 := ⟨⟨Tryz.t243,(match Tryz.t243.zero with | some z => z | none => undef),by kernel_rfl,by kernel_rfl,by kernel_rfl,by kernel_rfl,by kernel_rfl⟩,by kernel_rfl,by kernel_rfl,⟨Tryz.t243.desc,by kernel_rfl,by kernel_rfl⟩,(by kernel_rfl : Tryz.prog.underlying 243 = some (.int .u32))⟩
abbrev ti249 : TI := ⟨32,true,32,[.int .u8 0,.int .u8 0,.int .u8 0,.int .u8 0,.int .u8 0,.int .u8 0,.int .u8 0,.int .u8 0,.int .u8 0,.int .u8 0,.int .u8 0,.int .u8 0,.int .u8 0,.int .u8 0,.int .u8 0,.int .u8 0,.int .u8 0,.int .u8 0,.int .u8 0,.int .u8 0,.int .u8 0,.int .u8 0,.int .u8 0,.int .u8 0,.int .u8 0,.int .u8 0,.int .u8 0,.int .u8 0,.int .u8 0,.int .u8 0,.int .u8 0,.int .u8 0],.array 32 5⟩
theorem tf249 : TFact Tryz.prog 249 ti249 := ⟨⟨Tryz.t249,(match Tryz.t249.zero with | some z => z | none => undef),by kernel_rfl,by kernel_rfl,by kernel_rfl,by kernel_rfl,by kernel_rfl⟩,by kernel_rfl,by kernel_rfl,⟨Tryz.t249.desc,by kernel_rfl,by kernel_rfl⟩,(by kernel_rfl : Tryz.prog.underlying 249 = some (.array 32 5))⟩
abbrev ti250 : TI := ⟨64,true,64,[.int .u8 0,.int .u8 0,.int .u8 0,.int .u8 0,.int .u8 0,.int .u8 0,.int .u8 0,.int .u8 0,.int .u8 0,.int .u8 0,.int .u8 0,.int .u8 0,.int .u8 0,.int .u8 0,.int .u8 0,.int .u8 0,.int .u8 0,.int .u8 0,.int .u8 0,.int .u8 0,.int .u8 0,.int .u8 0,.int .u8 0,.int .u8 0,.int .u8 0,.int .u8 0,.int .u8 0,.int .u8 0,.int .u8 0,.int .u8 0,.int .u8 0,.int .u8 0,.int .u8 0,.int .u8 0,.int .u8 0,.int .u8 0,.int .u8 0,.int .u8 0,.int .u8 0,.int .u8 0,.int .u8 0,.int .u8 0,.int .u8 0,.int .u8 0,.int .u8 0,.int .u8 0,.int .u8 0,.int .u8 0,.int .u8 0,.int .u8 0,.int .u8 0,.int .u8 0,.int .u8 0,.int .u8 0,.int .u8 0,.int .u8 0,.int .u8 0,.int .u8 0,.int .u8 0,.int .u8 0,.int .u8 0,.int .u8 0,.int .u8 0,.int .u8 0],.array 64 5⟩
theorem tf250 : TFact Tryz.prog 250 ti250 := ⟨⟨Tryz.t250,(match Tryz.t250.zero with | some z => z | none => undef),by kernel_rfl,by kernel_rfl,by kernel_rfl,by kernel_rfl,by kernel_rfl⟩,by kernel_rfl,by kernel_rfl,⟨Tryz.t250.desc,by kernel_rfl,by kernel_rfl⟩,(by kernel_rfl : Tryz.prog.underlying 250 = some (.array 64 5))⟩
inductive TT where | leaf | node (k : Nat) (v : TI) (l r : TT)
def TT.get (t : Nat) : TT → Option TI
 | .leaf => none
 | .node k v l r => bif Nat.beq t k then some v else bif Nat.blt t k then l.get t else r.get t
inductive TT.All (p : Nat → TI → Prop) : TT → Prop where
 |leaf : TT.All p .leaf
 |node (k v l r) (h : p k v) (hl : TT.All p l) (hr : TT.All p r) : TT.All p (.node k v l r)
theorem TT.get_all {p : Nat → TI → Prop} {t : Nat} {v : TI} {T : TT} (h : TT.All p T) : T.get t = some v → p t v := by
 induction h with
 |leaf => intro h; cases h
 |node k w l r h hl hr ihl ihr =>
  intro hg
  simp only [TT.get] at hg
  cases hb : Nat.beq t k with
  |true => rw [hb] at hg; simp only [cond_true,Option.some.injEq] at hg; subst hg; rw [Nat.eq_of_beq_eq_true hb]; exact h
  |false =>
   rw [hb] at hg
   simp only [cond_false] at hg
   cases hc : Nat.blt t k with
   |true => rw [hc] at hg; exact ihl hg
   |false => rw [hc] at hg; exact ihr hg
def tyT : TT := (.node 76 ti76 (.node 23 ti23 (.node 9 ti9 (.node 5 ti5 (.node 3 ti3 (.node 2 ti2 .leaf .leaf) (.node 4 ti4 .leaf .leaf)) (.node 7 ti7 (.node 6 ti6 .leaf .leaf) (.node 8 ti8 .leaf .leaf))) (.node 13 ti13 (.node 11 ti11 (.node 10 ti10 .leaf .leaf) (.node 12 ti12 .leaf .leaf)) (.node 21 ti21 (.node 14 ti14 .leaf .leaf) (.node 22 ti22 .leaf .leaf)))) (.node 53 ti53 (.node 30 ti30 (.node 25 ti25 (.node 24 ti24 .leaf .leaf) (.node 29 ti29 .leaf .leaf)) (.node 49 ti49 (.node 31 ti31 .leaf .leaf) (.node 50 ti50 .leaf .leaf))) (.node 72 ti72 (.node 69 ti69 (.node 67 ti67 .leaf .leaf) (.node 70 ti70 .leaf .leaf)) (.node 74 ti74 (.node 73 ti73 .leaf .leaf) (.node 75 ti75 .leaf .leaf))))) (.node 122 ti122 (.node 93 ti93 (.node 89 ti89 (.node 78 ti78 (.node 77 ti77 .leaf .leaf) (.node 88 ti88 .leaf .leaf)) (.node 91 ti91 (.node 90 ti90 .leaf .leaf) (.node 92 ti92 .leaf .leaf))) (.node 106 ti106 (.node 104 ti104 (.node 103 ti103 .leaf .leaf) (.node 105 ti105 .leaf .leaf)) (.node 119 ti119 (.node 107 ti107 .leaf .leaf) (.node 120 ti120 .leaf .leaf)))) (.node 223 ti223 (.node 151 ti151 (.node 142 ti142 (.node 123 ti123 .leaf .leaf) (.node 143 ti143 .leaf .leaf)) (.node 168 ti168 (.node 157 ti157 .leaf .leaf) (.node 177 ti177 .leaf .leaf))) (.node 243 ti243 (.node 236 ti236 (.node 227 ti227 .leaf .leaf) (.node 242 ti242 .leaf .leaf)) (.node 250 ti250 (.node 249 ti249 .leaf .leaf) .leaf)))))
def tyF (t : TypeId) : Option TI := tyT.get t
theorem tyF_ok (t : TypeId) (ti : TI) (h : tyF t = some ti) : TFact Tryz.prog t ti := TT.get_all (p := TFact Tryz.prog) (T := tyT) (.node _ _ _ _ tf76 (.node _ _ _ _ tf23 (.node _ _ _ _ tf9 (.node _ _ _ _ tf5 (.node _ _ _ _ tf3 (.node _ _ _ _ tf2 .leaf .leaf) (.node _ _ _ _ tf4 .leaf .leaf)) (.node _ _ _ _ tf7 (.node _ _ _ _ tf6 .leaf .leaf) (.node _ _ _ _ tf8 .leaf .leaf))) (.node _ _ _ _ tf13 (.node _ _ _ _ tf11 (.node _ _ _ _ tf10 .leaf .leaf) (.node _ _ _ _ tf12 .leaf .leaf)) (.node _ _ _ _ tf21 (.node _ _ _ _ tf14 .leaf .leaf) (.node _ _ _ _ tf22 .leaf .leaf)))) (.node _ _ _ _ tf53 (.node _ _ _ _ tf30 (.node _ _ _ _ tf25 (.node _ _ _ _ tf24 .leaf .leaf) (.node _ _ _ _ tf29 .leaf .leaf)) (.node _ _ _ _ tf49 (.node _ _ _ _ tf31 .leaf .leaf) (.node _ _ _ _ tf50 .leaf .leaf))) (.node _ _ _ _ tf72 (.node _ _ _ _ tf69 (.node _ _ _ _ tf67 .leaf .leaf) (.node _ _ _ _ tf70 .leaf .leaf)) (.node _ _ _ _ tf74 (.node _ _ _ _ tf73 .leaf .leaf) (.node _ _ _ _ tf75 .leaf .leaf))))) (.node _ _ _ _ tf122 (.node _ _ _ _ tf93 (.node _ _ _ _ tf89 (.node _ _ _ _ tf78 (.node _ _ _ _ tf77 .leaf .leaf) (.node _ _ _ _ tf88 .leaf .leaf)) (.node _ _ _ _ tf91 (.node _ _ _ _ tf90 .leaf .leaf) (.node _ _ _ _ tf92 .leaf .leaf))) (.node _ _ _ _ tf106 (.node _ _ _ _ tf104 (.node _ _ _ _ tf103 .leaf .leaf) (.node _ _ _ _ tf105 .leaf .leaf)) (.node _ _ _ _ tf119 (.node _ _ _ _ tf107 .leaf .leaf) (.node _ _ _ _ tf120 .leaf .leaf)))) (.node _ _ _ _ tf223 (.node _ _ _ _ tf151 (.node _ _ _ _ tf142 (.node _ _ _ _ tf123 .leaf .leaf) (.node _ _ _ _ tf143 .leaf .leaf)) (.node _ _ _ _ tf168 (.node _ _ _ _ tf157 .leaf .leaf) (.node _ _ _ _ tf177 .leaf .leaf))) (.node _ _ _ _ tf243 (.node _ _ _ _ tf236 (.node _ _ _ _ tf227 .leaf .leaf) (.node _ _ _ _ tf242 .leaf .leaf)) (.node _ _ _ _ tf250 (.node _ _ _ _ tf249 .leaf .leaf) .leaf))))) h
end Ai
end
section
namespace Ai
open Go Go.Proofs
theorem var_mono {P : Program} {name : String} {cs : Array Value} {w w' : World} (h : w.var? P name = some cs) (hb : RowKit.Below w.heap.size w w') : w'.var? P name = some cs := by
 unfold World.var? at *
 cases hg : P.globalNamed name with
 |none => rw [hg] at h; exact h
 |some g =>
  rw [hg] at h
  simp only [Option.bind_some] at h ⊢
  cases hh : w.heap[g]? with
  |none => rw [hh] at h; cases h
  |some ob =>
   have hlt : g < w.heap.size := (Array.getElem?_eq_some_iff.1 hh).1
   rw [hb.block g hlt,hh]
   rw [hh] at h
   exact h
def IT (w : World) : Prop := Lib.TabIs Tryz.prog w "internal/strconv.uint64pow10" .u64 Lib.pow10Tab
theorem IT_mono (w w' : World) (h : IT w) (hb : RowKit.Below w.heap.size w w') : IT w' := var_mono h hb
def mapF (t : TypeId) : Option TypeId := bif Nat.beq t 196 then some 3 else none
theorem mapF_ok (t e : TypeId) (h : mapF t = some e) : ∃ k,Tryz.prog.underlying t = some (.map k e) ∧ Tryz.prog.underlying k = some (.int .i64) := by
 unfold mapF at h
 cases hb : Nat.beq t 196 with
 |false => rw [hb] at h; cases h
 |true =>
  rw [hb] at h
  have := Nat.eq_of_beq_eq_true hb
  subst this
  injection h with h; subst h
  exact ⟨3,(by kernel_rfl : Tryz.prog.underlying 196 = some (.map 3 3)),(by kernel_rfl : Tryz.prog.underlying 3 = some (.int .i64))⟩
def ioF (g : FuncId) : Bool := Nat.beq g 64
def funT (t : TypeId) : Bool := Nat.beq t 137
theorem funT_ok (t : TypeId) (h : funT t = true) : ∃ i z u,Tryz.prog.info? t = some i ∧ i.size = 1 ∧ i.zero = some z ∧ z.cells = #[z] ∧ Tryz.prog.underlying t = some u ∧ isAggD u = false := by
 have := Nat.eq_of_beq_eq_true h
 subst this
 exact ⟨Tryz.t137,.nilFunc,Tryz.t137.desc,by kernel_rfl,by kernel_rfl,by kernel_rfl,by kernel_rfl,by kernel_rfl,by kernel_rfl⟩
noncomputable abbrev EE : Env := ⟨Tryz.prog,tyF,tyF_ok,mapF,mapF_ok,by kernel_rfl,IT,IT_mono,ioF,funT,funT_ok⟩
abbrev i64 (n : Int) : AV := .d (.int .i64 n)
abbrev bv (b : Bool) : AV := .d (.bool b)
abbrev sv (s : List UInt8) : AV := .d (.str s)
abbrev sl (els : List (List D)) : AV := .d (.sl els)
abbrev di (n : Int) : D := .int .i64 n
def ints (l : List Int) : List (List D) := l.map fun n => [di n]
theorem zE {n : Int} (h1 : -9223372036854775808 ≤ n) (h2 : n ≤ 9223372036854775807) : IntKind.i64.wrap n = n := by rw [IntKind.wrap_i64]; omega
end Ai
end
section
set_option maxRecDepth 100000
namespace Ai
open Go Go.Proofs
theorem oK {a b : Int} (h : a = b) : AV.d (.int .i64 a) = i64 b := by rw [h]
theorem next_i64 {k n : Nat} (h : k < n) (hn : n ≤ 9223372036854775807) : AV.d (.int .i64 (IntKind.i64.wrap ((k : Int) + 1))) = i64 ((k + 1 : Nat) : Int) :=
 oK (by rw [zE (by omega) (by omega)]; rfl)
theorem lt_of_dec {k n : Nat} (h : decide ((k : Int) < (n : Int)) = true) : k < n := by simpa using h
theorem ge_of_dec {k n : Nat} (h : decide ((k : Int) < (n : Int)) = false) : n ≤ k := by simpa using h
theorem yB {α : Type} {xs : List α} (enc : α → List D) {k n : Nat} (h : k < xs.length) (hl : (enc xs[k]).length = n) : 0 ≤ (k : Int) ∧ (xs.map enc)[(k : Int).toNat]? = some (enc xs[k]) ∧ (enc xs[k]).length = n := ⟨by omega,by simp [h],hl⟩
theorem xM {α : Type} {xs : List α} {enc : α → List D} {k : Nat} (h : decide ((k : Int) < ((xs.map enc).length : Int)) = true) : k < xs.length := by simpa using h
theorem ge_map {α : Type} {xs : List α} {enc : α → List D} {k : Nat} (h : decide ((k : Int) < ((xs.map enc).length : Int)) = false) : xs.length ≤ k := by simpa using h
def fM {α : Type} (f : α → Nat) (xs : List α) : Nat := xs.length + (xs.map f).sum
theorem cM (l : List Nat) (k : Nat) (h : k < l.length) : (l.take (k + 1)).sum = (l.take k).sum + l[k] := by
 rw [List.take_add_one,List.sum_append,List.getElem?_eq_getElem h]; simp
structure OpL where
 code : Int
 a : Int
 b : Int
 v : Nat
structure PctL where
 ranks : List Int
 changes : List Int
structure PairL where
 cell : Int
 one : Int
 two : Int
structure FoundL where
 sign : List UInt8
 picks : List Int
structure ProgL where
 cells : Int
 locks : Int
 conds : Int
 rs : List (List OpL)
structure HuntL where
 p : ProgL
 kept : List PctL
 cov : List PairL
 finds : List FoundL
 tried : Int
def encInt (n : Int) : List D := [di n]
def encOp (o : OpL) : List D := [di o.code,di o.a,di o.b,.flt o.v]
def zO (l : List OpL) : List D := [.sl (l.map encOp)]
def encProg (p : ProgL) : List D := [di p.cells,di p.locks,di p.conds,.sl (p.rs.map zO)]
def agg (l : List D) : AV := .agg (l.map .d)
def ProgL.wf (p : ProgL) : Prop := p.rs.length ≤ 9223372036854775807 ∧ ∀ r ∈ p.rs,r.length ≤ 9223372036854775807
def PctL.wf (s : PctL) : Prop := s.ranks.length ≤ 9223372036854775807 ∧ s.changes.length ≤ 9223372036854775807
def FoundL.wf (f : FoundL) : Prop := f.sign.length ≤ 9223372036854775807 ∧ f.picks.length ≤ 9223372036854775807
def HuntL.wf (h : HuntL) : Prop := h.p.wf ∧ h.kept.length ≤ 9223372036854775807 ∧ (∀ s ∈ h.kept,s.wf) ∧ h.cov.length ≤ 9223372036854775807 ∧ h.finds.length ≤ 9223372036854775807 ∧ ∀ f ∈ h.finds,f.wf
def PctL.size (s : PctL) : Nat := s.ranks.length + s.changes.length
def FoundL.size (f : FoundL) : Nat := f.sign.length + f.picks.length
def ProgL.size (p : ProgL) : Nat := fM List.length p.rs
def HuntL.size (h : HuntL) : Nat := h.p.size + fM PctL.size h.kept + h.cov.length + fM FoundL.size h.finds
def szR (left : Int) (size : Nat) (r : AV) : Prop := ∃ n : Int,r = i64 n ∧ -1 ≤ n ∧ n ≤ left ∧ (0 ≤ n → (size : Int) + n ≤ left)
end Ai
namespace Ai
open Go
theorem nt {c : Bool} (h : c = false) : ¬ c = true := by simp [h]
theorem oX (x y : Nat) : fcmp .neq x y = !fcmp .eql x y := rfl
end Ai
namespace Ai
theorem kbi {c : Bool} {A B : Prop} (h1 : c = true → A) (h2 : ¬ c = true → B) : (c = true → A) ∧ (c = false → B) := ⟨h1,fun h => h2 (by simp [h])⟩
end Ai
namespace Ai
open Go
noncomputable def pb (P : Prop) : Bool := @decide P (Classical.propDecidable P)
theorem sI {P : Prop} (h : P) : pb P = true := by simp [pb,h]
theorem iY {P : Prop} (h : ¬ P) : pb P = false := by simp [pb,h]
noncomputable abbrev bp (P : Prop) : AV := bv (pb P)
theorem bpt {P : Prop} (h : P) : AV.d (.bool true) = bp P := by simp only [bp,sI h]
theorem bpf {P : Prop} (h : ¬ P) : AV.d (.bool false) = bp P := by simp only [bp,iY h]
theorem tW {P : Prop} {G : AV → Prop} (h1 : P → G (bv true)) (h2 : ¬ P → G (bv false)) : G (bp P) := by
 by_cases h : P
 ·have : bp P = bv true := by simp only [bp,sI h]
  rw [this]; exact h1 h
 ·have : bp P = bv false := by simp only [bp,iY h]
  rw [this]; exact h2 h
theorem qcase {E : Env} {g : FuncId} {ar : List AV} {P : Prop} {G : AV → Prop} (h : CallsTo E g ar (· = bp P)) (h1 : P → G (bv true)) (h2 : ¬ P → G (bv false)) : ∃ r,CallsTo E g ar (· = r) ∧ G r := ⟨_,h,tW h1 h2⟩
theorem ocase {E : Env} {g : FuncId} {ar : List AV} {P : Prop} {G : AV → Prop} (h : CallsTo E g ar (· = bp P)) (h1 : P → G (bv true)) (h2 : ¬ P → G (bv false)) : ∃ R,CallsTo E g ar R ∧ ∀ r,R r → G r :=
 ⟨_,h,fun r hr => by subst hr; exact tW h1 h2⟩
theorem fcase {E : Env} {g : FuncId} {ar : List AV} {P : Prop} {G : AV → Prop} (h : CallsTo E g ar (· = bp P)) (h1 : P → G (bv true)) (h2 : ¬ P → G (bv false)) : ∃ R,CallsTo E g ar R ∧ ∀ r,R r → cE r ∧ G r :=
 ⟨_,h,fun r hr => ⟨by subst hr; rfl,by subst hr; exact tW h1 h2⟩⟩
theorem qD {α : Type} {xs : List α} {p : α → Prop} {k : Nat} (h : ∀ x ∈ xs.take k,p x) (hk : k < xs.length) (hp : p xs[k]) : ∀ x ∈ xs.take (k + 1),p x := by
 intro x hx
 rw [List.take_add_one,List.getElem?_eq_getElem hk] at hx
 simp only [Option.toList,List.mem_append,List.mem_singleton] at hx
 rcases hx with hx | hx
 ·exact h x hx
 ·subst hx; exact hp
theorem kF {α : Type} {xs : List α} {p : α → Prop} {k : Nat} (h : ∀ x ∈ xs.take k,p x) (hk : xs.length ≤ k) : ∀ x ∈ xs,p x := by
 rw [List.take_of_length_le hk] at h; exact h
theorem qC {α : Type} {xs : List α} {p : α → Prop} : ∀ x ∈ xs.take 0,p x := by simp
end Ai
end
section
set_option maxRecDepth 100000
namespace Ai
open Go Go.Proofs
theorem q7 {α : Type} (xs : List α) (enc : α → List D) (z : List D) (k sz : Nat) (h : k < xs.length) (hs : (enc xs[k]).length = sz) :
  wJ ((xs.take k).map enc ++ List.replicate (xs.length - k) z) sz (0 + (k : Int).toNat) 0 (enc xs[k]) = (xs.take (k + 1)).map enc ++ List.replicate (xs.length - (k + 1)) z := by
 have e : wJ ((xs.take k).map enc ++ List.replicate (xs.length - k) z) sz (0 + (k : Int).toNat) 0 (enc xs[k]) = ((xs.take k).map enc ++ List.replicate (xs.length - k) z).set k (enc xs[k]) := by
  unfold wJ
  rw [hs,nbeq_self,nbeq_self]
  simp
 rw [e,List.set_append]
 have hl : ((xs.take k).map enc).length = k := by simp; omega
 rw [if_neg (by omega),hl,Nat.sub_self]
 have : xs.length - k = (xs.length - (k + 1)) + 1 := by omega
 rw [this,List.replicate_succ,List.set_cons_zero,List.take_add_one,List.getElem?_eq_getElem h,List.map_append]
 simp only [Option.toList,List.map_cons,List.map_nil,List.append_assoc,List.singleton_append]
theorem set_end {α : Type} (xs : List α) (enc : α → List D) (z : List D) (k n : Nat) (h : xs.length ≤ k) (hk : k ≤ xs.length) (hn : n = xs.length) : ((xs.take k).map enc ++ List.replicate (xs.length - k) z).take n = xs.map enc := by
 have : k = xs.length := by omega
 subst this; subst hn
 simp
 exact List.take_of_length_le (by simp)
theorem toOp_ok (x : OpL) : CallsTo EE 121 [agg (encOp x)] (· = agg (encOp x)) := by
 refine callsTo_of_AW (fn := Tryz.f121) Tryz.func121 rfl (by kernel_rfl) rfl ?_
 conv => whnf
 rfl
theorem u9 (xs : List OpL) (hx : xs.length ≤ 1048576) : CallsTo EE 76 [sl (xs.map encOp)] (· = .uq 107 4 (xs.map encOp)) := by
 refine callsTo_of_AW (fn := Tryz.f76) Tryz.func76 rfl (by kernel_rfl) rfl ?_
 conv => whnf
 refine ⟨by simp; omega,?_⟩
 conv => whnf
 refine yR (fun k : Nat => [(0,sl (xs.map encOp)),(3,.ref 7 0 (xs.map encOp).length),(4,i64 k)]) (fun k => [(7,.ds 107 4 ((xs.take k).map encOp ++ List.replicate (xs.length - k) [di 0,di 0,di 0,.flt 0]))]) (fun k => xs.length - k) (fun k => k ≤ xs.length) 0 .refl ⟨rfl,by simp [put,St.new,St.setH,St.kill]; rfl,rfl,trivial⟩ ⟨?_,trivial⟩ (Nat.zero_le _) ?_
 ·simp [put,St.new,St.setH,St.kill,q9]; rfl
 intro k τ H hk
 conv => whnf
 refine ⟨fun h => ?_,fun h => ?_⟩
 ·have hlt := xM h
  conv => whnf
  refine ⟨encOp xs[k],yB encOp hlt rfl,?_⟩
  conv => whnf
  refine ⟨_,toOp_ok xs[k],?_⟩
  rintro r rfl
  conv => whnf
  refine ⟨⟨by omega,by simp; omega⟩,?_⟩
  conv => whnf
  refine ⟨k + 1,by omega,by show xs.length - (k + 1) < xs.length - k; omega,⟨rfl,rfl,next_i64 hlt (by omega),trivial⟩,⟨?_,trivial⟩⟩
  exact congrArg (fun l => some (Ob.ds 107 4 l)) (q7 xs encOp [di 0,di 0,di 0,.flt 0] k 4 hlt rfl)
 ·have hge := ge_map h
  conv => whnf
  exact congrArg (AV.uq 107 4) (set_end xs encOp [di 0,di 0,di 0,.flt 0] k _ hge hk (by simp))
theorem toOpSS_ok (xs : List (List OpL)) (hx : xs.length ≤ 1048576) (hx2 : ∀ x ∈ xs,x.length ≤ 1048576) : CallsTo EE 42 [sl (xs.map zO)] (· = .uq 104 1 (xs.map zO)) := by
 refine callsTo_of_AW (fn := Tryz.f42) Tryz.func42 rfl (by kernel_rfl) rfl ?_
 conv => whnf
 refine ⟨by simp; omega,?_⟩
 conv => whnf
 refine yR (fun k : Nat => [(0,sl (xs.map zO)),(3,.ref 7 0 (xs.map zO).length),(4,i64 k)]) (fun k => [(7,.ds 104 1 ((xs.take k).map zO ++ List.replicate (xs.length - k) [.nil]))]) (fun k => xs.length - k) (fun k => k ≤ xs.length) 0 .refl ⟨rfl,by simp [put,St.new,St.setH,St.kill]; rfl,rfl,trivial⟩ ⟨?_,trivial⟩ (Nat.zero_le _) ?_
 ·simp [put,St.new,St.setH,St.kill,q9]; rfl
 intro k τ H hk
 conv => whnf
 refine ⟨fun h => ?_,fun h => ?_⟩
 ·have hlt := xM h
  conv => whnf
  refine ⟨zO xs[k],yB zO hlt rfl,?_⟩
  conv => whnf
  refine ⟨_,u9 xs[k] (hx2 _ (List.getElem_mem hlt)),?_⟩
  rintro r rfl
  conv => whnf
  refine .inl ?_
  conv => whnf
  refine ⟨⟨by omega,by simp; omega⟩,?_⟩
  conv => whnf
  refine ⟨k + 1,by omega,by show xs.length - (k + 1) < xs.length - k; omega,⟨rfl,rfl,next_i64 hlt (by omega),trivial⟩,⟨?_,trivial⟩⟩
  exact congrArg (fun l => some (Ob.ds 104 1 l)) (q7 xs zO [.nil] k 1 hlt rfl)
 ·have hge := ge_map h
  conv => whnf
  exact congrArg (AV.uq 104 1) (set_end xs zO [.nil] k _ hge hk (by simp))
theorem mN (p : ProgL) (h : p.rs.length ≤ 1048576 ∧ ∀ x ∈ p.rs,x.length ≤ 1048576) : CallsTo EE 13 [agg (encProg p)] (· = agg (encProg p)) := by
 refine callsTo_of_AW (fn := Tryz.f13) Tryz.func13 rfl (by kernel_rfl) rfl ?_
 conv => whnf
 refine ⟨_,toOpSS_ok _ h.1 h.2,?_⟩
 rintro r rfl
 refine .inl ?_
 conv => whnf
 rfl
def HuntL.small (h : HuntL) : Prop := (h.p.rs.length ≤ 1048576 ∧ ∀ x ∈ h.p.rs,x.length ≤ 1048576) ∧ (h.kept.length ≤ 1048576 ∧ ∀ x ∈ h.kept,x.ranks.length ≤ 1048576 ∧ x.changes.length ≤ 1048576) ∧ h.cov.length ≤ 1048576 ∧ (h.finds.length ≤ 1048576 ∧ ∀ x ∈ h.finds,x.picks.length ≤ 1048576)
end Ai
end
section
set_option maxRecDepth 100000
namespace Ai
open Go Go.Proofs
def InR (n lo hi : Int) : Prop := lo ≤ n ∧ n ≤ hi
theorem qF (n lo hi : Int) : CallsTo EE 52 [i64 n,i64 lo,i64 hi] (· = bp (InR n lo hi)) := by
 refine callsTo_of_AW (fn := Tryz.f52) Tryz.func52 rfl (by kernel_rfl) rfl ?_
 conv => whnf
 repeat' (refine kbi (fun h => ?_) (fun h => ?_) <;> first | contradiction | conv => whnf)
 all_goals simp only [decide_eq_true_eq] at *
 all_goals first | exact bpt (by unfold InR; omega) | exact bpf (by unfold InR; omega)
def PairL.good (x : PairL) : Prop := InR x.cell 0 99 ∧ InR x.one 0 999 ∧ InR x.two 0 999
theorem l1Has_ok (xs : List Int) (n : Int) (hx : xs.length ≤ 1048576) : CallsTo EE 112 [sl (xs.map encInt),i64 n] (· = bp (n ∈ xs)) := by
 refine callsTo_of_AW (fn := Tryz.f112) Tryz.func112 rfl (by kernel_rfl) rfl ?_
 conv => whnf
 refine yR (fun k : Nat => [(1,i64 n),(7,sl (xs.map encInt)),(8,i64 (xs.map encInt).length),(9,i64 k)]) (fun k => []) (fun k => xs.length - k) (fun k => k ≤ xs.length ∧ ∀ x ∈ xs.take k,x ≠ n) 0 .refl ⟨rfl,rfl,rfl,rfl,trivial⟩ trivial ⟨Nat.zero_le _,qC⟩ ?_
 rintro k τ H ⟨hk,ih⟩
 conv => whnf
 refine kbi (fun h => ?_) (fun h => ?_)
 ·have hlt := xM h
  conv => whnf
  refine ⟨encInt xs[k],yB encInt hlt rfl,?_⟩
  conv => whnf
  refine kbi (fun h => ?_) (fun h => ?_)
  ·conv => whnf
   refine bpt ?_
   simp at h
   exact h ▸ List.getElem_mem hlt
  ·conv => whnf
   simp at h
   exact ⟨k + 1,⟨by omega,qD ih hlt h⟩,by show xs.length - (k + 1) < xs.length - k; omega,⟨rfl,rfl,rfl,next_i64 hlt (by omega),trivial⟩,trivial⟩
 ·conv => whnf
  refine bpf fun hm => ?_
  exact kF ih (by simp at h; omega) n hm rfl
def AllIn (xs : List Int) (lo hi : Int) : Prop := ∀ x ∈ xs,InR x lo hi
theorem l1All_ok (xs : List Int) (lo hi : Int) (hx : xs.length ≤ 1048576) : CallsTo EE 75 [sl (xs.map encInt),i64 lo,i64 hi] (· = bp (AllIn xs lo hi)) := by
 refine callsTo_of_AW (fn := Tryz.f75) Tryz.func75 rfl (by kernel_rfl) rfl ?_
 conv => whnf
 refine yR (fun k : Nat => [(1,i64 lo),(2,i64 hi),(9,sl (xs.map encInt)),(10,i64 (xs.map encInt).length),(11,i64 k)]) (fun k => []) (fun k => xs.length - k) (fun k => k ≤ xs.length ∧ ∀ x ∈ xs.take k,InR x lo hi) 0 .refl ⟨rfl,rfl,rfl,rfl,rfl,trivial⟩ trivial ⟨Nat.zero_le _,qC⟩ ?_
 rintro k τ H ⟨hk,ih⟩
 conv => whnf
 refine kbi (fun h => ?_) (fun h => ?_)
 ·have hlt := xM h
  conv => whnf
  refine ⟨encInt xs[k],yB encInt hlt rfl,?_⟩
  conv => whnf
  refine ocase (qF _ _ _) (fun h => ?_) (fun h => ?_)
  ·conv => whnf
   exact ⟨k + 1,⟨by omega,qD ih hlt h⟩,by show xs.length - (k + 1) < xs.length - k; omega,⟨rfl,rfl,rfl,rfl,next_i64 hlt (by omega),trivial⟩,trivial⟩
  ·conv => whnf
   exact bpf fun hm => h (hm _ (List.getElem_mem hlt))
 ·conv => whnf
  exact bpt (kF ih (by simp at h; omega))
def Rise (xs : List Int) (lo hi : Int) : Prop := ∀ (i : Nat) (h : i < xs.length),InR xs[i] lo hi ∧ ∀ (j : Nat) (hj : j + 1 = i),xs[j] < xs[i]
end Ai
end
section
set_option maxRecDepth 100000
namespace Ai
open Go Go.Proofs
theorem l1Has_at (ys : List (List D)) (xs : List Int) (n : Int) (hy : ys = xs.map encInt) (hx : xs.length ≤ 1048576) : CallsTo EE 112 [sl ys,i64 n] (· = bp (n ∈ xs)) := hy ▸ l1Has_ok xs n hx
def PctL.goodS (s : PctL) : Prop := s.ranks.length = 5 ∧ AllIn s.ranks 0 4 ∧ (∀ (k : Nat) (h : k < s.ranks.length),s.ranks[k] ∉ s.ranks.take k) ∧ s.changes.length ≤ 4 ∧ Rise s.changes 0 199
def PairL.key (x : PairL) : Int := x.cell * 1000000 + x.one * 1000 + x.two
def PairsR (xs : List PairL) : Prop := (∀ (i : Nat) (h : i < xs.length),xs[i].good ∧ ∀ (j : Nat) (hj : j + 1 = i),xs[j].key < xs[i].key) ∧ xs.length ≤ 200
def Picks (xs : List Int) : Prop := xs.length ≤ 200 ∧ AllIn xs 0 999
end Ai
end
section
set_option maxRecDepth 100000
namespace Ai
open Go Go.Proofs Ieee
theorem kO : double.read 0 = .number false 0 double.leastPlace := by decide
theorem order_zero {v : Nat} (hv : v < 18446744073709551616) (h : double.order v 0 = some .eq) : v = 0 ∨ v = 9223372036854775808 := by
 unfold Format.order at h
 rw [kO] at h
 unfold Format.read at h
 have e1 : double.signWeight = 9223372036854775808 := by decide
 have e2 : double.binade = 4503599627370496 := by decide
 rw [e1,e2] at h
 simp only at h
 split at h
 ·simp only [Datum.order,Option.some.injEq] at h
  have hb : (Min.min double.leastPlace double.leastPlace) = double.leastPlace := by decide
  rw [hb,Int.sub_self] at h
  have h2 := Std.LawfulEqCmp.eq_of_compare h
  simp only [signed] at h2
  have hs : v % 9223372036854775808 = 0 := by
   split at h2
   ·simp at h2; omega
   ·simp at h2; omega
  omega
 ·split at h
  ·simp only [Datum.order,Option.some.injEq] at h
   have h2 := Std.LawfulEqCmp.eq_of_compare h
   simp only [signed] at h2
   exfalso
   split at h2
   ·simp [Nat.shiftLeft_eq] at h2
    rcases Int.mul_eq_zero.1 h2 with h3 | h3
    ·omega
    ·exact absurd h3 (Int.ne_of_gt (Int.pow_pos (by decide)))
   ·simp [Nat.shiftLeft_eq] at h2
    rcases Int.mul_eq_zero.1 h2 with h3 | h3
    ·omega
    ·exact absurd h3 (Int.ne_of_gt (Int.pow_pos (by decide)))
  ·split at h
   ·simp only [Datum.order,Option.some.injEq] at h
    split at h <;> cases h
   ·cases h
theorem dS (v : Nat) : fcmp .neq v v = zM v := by
 unfold fcmp zM Format.order
 simp only
 cases h : double.read v with
 |nan s f => rfl
 |infinity s => cases s <;> rfl
 |number s m e => simp [Datum.order,Datum.isNaN,Std.ReflCmp.compare_self]
def jU (x : Nat) : Prop := fcmp .lss x 0 = true ∨ (fcmp .eql x 0 = true ∧ fcmp .lss (fop .quo 4607182418800017408 x) 0 = true)
theorem vN (x : Nat) : CallsTo EE 165 [.d (.flt x)] (· = bp (zM x = true)) := by
 refine callsTo_of_AW (fn := Tryz.f165) Tryz.func165 rfl (by kernel_rfl) rfl ?_
 conv => whnf
 refine kbi (fun h => ?_) (fun h => ?_)
 ·conv => whnf
  exact bpt (by rw [← dS]; exact h)
 ·conv => whnf
  exact bpf (by rw [← dS]; exact h)
theorem qA (x : Nat) : CallsTo EE 191 [.d (.flt x)] (· = bp (jU x)) := by
 refine callsTo_of_AW (fn := Tryz.f191) Tryz.func191 rfl (by kernel_rfl) rfl ?_
 conv => whnf
 repeat' (refine kbi (fun h => ?_) (fun h => ?_) <;> first | contradiction | conv => whnf)
 ·exact bpt (.inl h)
 ·rename_i h1 h2
  exact bpt (.inr ⟨h2,h⟩)
 ·rename_i h1 h2
  exact bpf (fun hm => hm.elim (fun a => h1 a) fun a => h a.2)
 ·rename_i h1
  exact bpf (fun hm => hm.elim (fun a => h1 a) fun a => h a.1)
theorem zero_iff {v : Nat} (hv : v < 18446744073709551616) (hn : ¬ zM v = true) : (fcmp .eql v 0 = true ∧ (jU v ↔ jU 0)) ↔ v = 0 := by
 constructor
 ·rintro ⟨h1,h2⟩
  have h3 : double.order v 0 = some .eq := by simpa [fcmp] using h1
  rcases order_zero hv h3 with h4 | h4
  ·exact h4
  ·subst h4
   exfalso
   have m1 : jU 9223372036854775808 := .inr ⟨by decide,by decide⟩
   have m0 : ¬ jU 0 := by unfold jU; decide
   exact m0 (h2.1 m1)
 ·rintro rfl
  exact ⟨by decide,Iff.rfl⟩
theorem cQ (v : Nat) (hv : v < 18446744073709551616) : CallsTo EE 156 [.d (.flt v),.d (.flt 0)] (· = bp (v = 0)) := by
 refine callsTo_of_AW (fn := Tryz.f156) Tryz.func156 rfl (by kernel_rfl) rfl ?_
 conv => whnf
 refine ocase (vN v) (fun h => ?_) (fun h => ?_)
 ·conv => whnf
  refine ocase (vN v) (fun h2 => ?_) (fun h2 => ?_)
  ·conv => whnf
   refine ocase (vN 0) (fun h3 => ?_) (fun h3 => ?_)
   ·exact absurd h3 (by decide)
   ·conv => whnf
    exact bpf fun e => h3 (e ▸ h)
  ·exact absurd h h2
 ·conv => whnf
  refine ocase (vN 0) (fun h3 => ?_) (fun h3 => ?_)
  ·exact absurd h3 (by decide)
  ·conv => whnf
   refine kbi (fun h4 => ?_) (fun h4 => ?_)
   ·conv => whnf
    refine ocase (qA v) (fun h5 => ?_) (fun h5 => ?_)
    ·conv => whnf
     refine ocase (qA 0) (fun h6 => ?_) (fun h6 => ?_)
     ·exact absurd h6 (by unfold jU; decide)
     ·conv => whnf
      refine kbi (fun h7 => ?_) (fun h7 => ?_)
      ·exact absurd h7 (by decide)
      ·conv => whnf
       exact bpf fun e => by subst e; exact h6 h5
    ·conv => whnf
     refine ocase (qA 0) (fun h6 => ?_) (fun h6 => ?_)
     ·exact absurd h6 (by unfold jU; decide)
     ·conv => whnf
      refine kbi (fun h7 => ?_) (fun h7 => ?_)
      ·conv => whnf
       exact bpt ((zero_iff hv h).1 ⟨h4,⟨fun a => absurd a h5,fun a => absurd a h6⟩⟩)
      ·exact absurd (by decide) h7
   ·conv => whnf
    exact bpf fun e => h4 (by subst e; decide)
end Ai
end
section
set_option maxRecDepth 100000
namespace Ai
open Go Go.Proofs
def bT (c : Int) : Prop := c = 2 ∨ c = 3 ∨ c = 10 ∨ c = 11 ∨ c = 12 ∨ c = 13 ∨ c = 14 ∨ c = 17
def fJ (c : Int) : List UInt8 := if c = 1 then [118] else if c = 2 ∨ c = 3 ∨ c = 10 ∨ c = 11 ∨ c = 12 ∨ c = 13 ∨ c = 14 ∨ c = 17 then [97] else if c = 16 then [97,98] else []
theorem l2Uses_ok (c : Int) : CallsTo EE 155 [i64 c] (· = sv (fJ c)) := by
 refine callsTo_of_AW (fn := Tryz.f155) Tryz.func155 rfl (by kernel_rfl) rfl ?_
 conv => whnf
 repeat' (refine kbi (fun h => ?_) (fun h => ?_) <;> first | contradiction | conv => whnf)
 all_goals simp only [beq_iff_eq] at *
 all_goals subst_vars
 all_goals first | rfl | (simp [fJ,sv, *]; done)
def OpL.plainS (o : OpL) : Prop := InR o.code 1 17 ∧ InR o.a 0 999 ∧ InR o.b 0 999 ∧ (o.code = 1 ∨ o.v = 0) ∧ (bT o.code ∨ o.code = 16 ∨ o.a = 0) ∧ (o.code = 16 ∨ o.b = 0)
theorem u1 (c : Int) : fJ c = [118] ↔ c = 1 := by
 unfold fJ; split
 ·simp [*]
 ·split
  ·simp [*]
  ·split <;> simp [*]
theorem u2 (c : Int) : fJ c = [97] ↔ bT c := by
 unfold fJ bT; split
 ·rename_i h; subst h; simp
 ·split
  ·simp [*]
  ·split <;> simp [*]
theorem u3 (c : Int) : fJ c = [97,98] ↔ c = 16 := by
 unfold fJ; split
 ·rename_i h; subst h; simp
 ·split
  ·rename_i h; constructor
   ·intro h2; simp at h2
   ·intro h2; omega
  ·split <;> simp [*]
theorem l2Plain_ok (o : OpL) (hv : o.v < 18446744073709551616) : CallsTo EE 120 [agg (encOp o)] (· = bp o.plainS) := by
 refine callsTo_of_AW (fn := Tryz.f120) Tryz.func120 rfl (by kernel_rfl) rfl ?_
 conv => whnf
 refine ⟨_,l2Uses_ok _,?_⟩
 rintro r rfl
 conv => whnf
 repeat' first
  |(refine kbi (fun h => ?_) (fun h => ?_) <;> first | contradiction | conv => whnf)
  |(refine ocase (qF _ _ _) (fun h => ?_) (fun h => ?_) <;> first | contradiction | conv => whnf)
  |(refine ocase (cQ _ hv) (fun h => ?_) (fun h => ?_) <;> first | contradiction | conv => whnf)
 all_goals try simp only [u1,u2,u3,beq_iff_eq] at *
 all_goals first | exact bpt (by unfold OpL.plainS; simp_all) | exact bpf (by unfold OpL.plainS; simp_all)
def OpL.atS (p : ProgL) (long : Int) (o : OpL) : Prop := ((o.code = 2 ∨ o.code = 3) → o.a < p.cells) ∧ ((o.code = 10 ∨ o.code = 11) → o.a ≤ long) ∧ ((o.code = 12 ∨ o.code = 13) → o.a < p.locks) ∧ (o.code = 14 → o.a < p.rs.length) ∧ (o.code = 16 → o.a < p.conds ∧ o.b < p.locks) ∧ (o.code = 17 → o.a < p.conds)
def OpL.goodS (p : ProgL) (long : Int) (o : OpL) : Prop := o.plainS ∧ o.atS p long
theorem l2Op_ok (p : ProgL) (long : Int) (o : OpL) (hv : o.v < 18446744073709551616) : CallsTo EE 74 [agg (encProg p),i64 long,agg (encOp o)] (· = bp (o.goodS p long)) := by
 refine callsTo_of_AW (fn := Tryz.f74) Tryz.func74 rfl (by kernel_rfl) rfl ?_
 conv => whnf
 refine ocase (l2Plain_ok o hv) (fun h0 => ?_) (fun h0 => ?_)
 rotate_left
 ·conv => whnf
  exact bpf fun hm => h0 hm.1
 conv => whnf
 repeat' (refine kbi (fun h => ?_) (fun h => ?_) <;> first | contradiction | conv => whnf)
 all_goals simp only [beq_iff_eq,decide_eq_true_eq,List.length_map] at *
 all_goals first
  |exact bpt ⟨h0,by unfold OpL.atS; refine ⟨?_,?_,?_,?_,?_,?_⟩ <;> intros <;> omega⟩
  |exact bpf fun hm => by
    obtain ⟨_,a1,a2,a3,a4,a5,a6⟩ := hm
    omega
def ProgL.headS (p : ProgL) : Prop := InR p.cells 0 4 ∧ InR p.locks 0 4 ∧ InR p.conds 0 2 ∧ InR p.rs.length 1 4
def ProgL.goodS (p : ProgL) : Prop := p.headS ∧ ∀ r ∈ p.rs,(∀ o ∈ r,o.goodS p r.length) ∧ r.length ≤ 24
def ProgL.flt (p : ProgL) : Prop := ∀ r ∈ p.rs,∀ o ∈ r,o.v < 18446744073709551616
theorem mK (p : ProgL) (hs : p.rs.length ≤ 1048576 ∧ ∀ x ∈ p.rs,x.length ≤ 1048576) (hv : p.flt) : CallsTo EE 39 [agg (encProg p)] (· = bp p.goodS) := by
 refine callsTo_of_AW (fn := Tryz.f39) Tryz.func39 rfl (by kernel_rfl) rfl ?_
 conv => whnf
 refine ocase (qF _ _ _) (fun h1 => ?_) (fun h1 => ?_)
 rotate_left
 ·conv => whnf
  exact bpf fun hm => h1 hm.1.1
 conv => whnf
 refine ocase (qF _ _ _) (fun h2 => ?_) (fun h2 => ?_)
 rotate_left
 ·conv => whnf
  exact bpf fun hm => h2 hm.1.2.1
 conv => whnf
 refine ocase (qF _ _ _) (fun h3 => ?_) (fun h3 => ?_)
 rotate_left
 ·conv => whnf
  exact bpf fun hm => h3 hm.1.2.2.1
 conv => whnf
 refine ocase (qF _ _ _) (fun h4 => ?_) (fun h4 => ?_)
 rotate_left
 ·conv => whnf
  exact bpf fun hm => h4 (by simpa using hm.1.2.2.2)
 have hh : p.headS := ⟨h1,h2,h3,by simpa using h4⟩
 conv => whnf
 refine yR (fun k : Nat => [(1,.ptr 1 0),(31,sl (p.rs.map zO)),(32,i64 (p.rs.map zO).length),(33,i64 k)]) (fun k => [(1,.vs 31 ((encProg p).map .d))]) (fun k => p.rs.length - k) (fun k => k ≤ p.rs.length ∧ ∀ r ∈ p.rs.take k,(∀ o ∈ r,o.goodS p r.length) ∧ r.length ≤ 24) 0 .refl ⟨rfl,rfl,rfl,rfl,trivial⟩ ⟨rfl,trivial⟩ ⟨Nat.zero_le _,qC⟩ ?_
 rintro k τ H ⟨hk,ih⟩
 conv => whnf
 refine kbi (fun h => ?_) (fun h => ?_)
 ·have hlt := xM h
  conv => whnf
  refine ⟨zO p.rs[k],yB zO hlt rfl,?_⟩
  conv => whnf
  have hrl := hs.2 _ (List.getElem_mem hlt)
  refine yR (fun j : Nat => [(1,.ptr 1 0),(31,sl (p.rs.map zO)),(32,i64 (p.rs.map zO).length),(33,i64 k),(4,sl (p.rs[k].map encOp)),(37,sl (p.rs[k].map encOp)),(38,i64 (p.rs[k].map encOp).length),(39,i64 j)]) (fun j => [(1,.vs 31 ((encProg p).map .d))]) (fun j => p.rs[k].length - j) (fun j => j ≤ p.rs[k].length ∧ ∀ o ∈ p.rs[k].take j,o.goodS p p.rs[k].length) 0 .refl ⟨rfl,rfl,rfl,rfl,rfl,rfl,rfl,rfl,trivial⟩ ⟨rfl,trivial⟩ ⟨Nat.zero_le _,qC (xs := p.rs[k])⟩ ?_
  rintro j τ2 H2 ⟨hj,ih2⟩
  conv => whnf
  refine kbi (fun h5 => ?_) (fun h5 => ?_)
  ·have hlt2 := xM h5
   conv => whnf
   refine ⟨encOp p.rs[k][j],yB encOp hlt2 rfl,?_⟩
   conv => whnf
   have hop : CallsTo EE 74 [agg (encProg p),i64 (p.rs[k].map encOp).length,agg (encOp p.rs[k][j])] (· = bp (p.rs[k][j].goodS p p.rs[k].length)) := by
    rw [List.length_map]
    exact l2Op_ok p _ _ (hv _ (List.getElem_mem hlt) _ (List.getElem_mem hlt2))
   refine ocase hop (fun h6 => ?_) (fun h6 => ?_)
   ·conv => whnf
    exact ⟨j + 1,⟨by omega,qD ih2 hlt2 h6⟩,by show p.rs[k].length - (j + 1) < p.rs[k].length - j; omega,⟨rfl,rfl,rfl,rfl,rfl,rfl,rfl,next_i64 hlt2 (by omega),trivial⟩,⟨rfl,trivial⟩⟩
   ·conv => whnf
    exact bpf fun hm => h6 ((hm.2 _ (List.getElem_mem hlt)).1 _ (List.getElem_mem hlt2))
  ·have hge2 : p.rs[k].length ≤ j := by simpa using h5
   have hall := kF ih2 hge2
   conv => whnf
   refine kbi (fun h7 => ?_) (fun h7 => ?_)
   ·conv => whnf
    refine bpf fun hm => ?_
    have := (hm.2 _ (List.getElem_mem hlt)).2
    simp at h7
    omega
   ·conv => whnf
    simp at h7
    exact ⟨k + 1,⟨by omega,qD ih hlt ⟨hall,by omega⟩⟩,by show p.rs.length - (k + 1) < p.rs.length - k; omega,⟨rfl,rfl,rfl,next_i64 hlt (by omega),trivial⟩,⟨rfl,trivial⟩⟩
 ·have hge : p.rs.length ≤ k := by simpa using h
  conv => whnf
  exact bpt ⟨hh,kF ih hge⟩
end Ai
end
section
set_option maxRecDepth 100000
namespace Ai
open Go Go.Proofs
def FindsR (xs : List FoundL) : Prop := ∀ (i : Nat) (h : i < xs.length),Picks xs[i].picks ∧ ∀ x ∈ xs.take i,x.sign ≠ xs[i].sign
def HuntL.goodS (h : HuntL) : Prop := (∀ s ∈ h.kept,s.goodS) ∧ h.p.goodS ∧ h.kept.length ≤ 30 ∧ PairsR h.cov ∧ FindsR h.finds ∧ InR h.tried 0 60
end Ai
end
section
set_option maxRecDepth 100000
namespace Ai
open Go Go.Proofs
theorem wQ (u n : Nat) (hn : 1 ≤ n) (h : u < 10 ^ n) : (Lib.decDigits u).length ≤ n := by
 induction n generalizing u with
 |zero => omega
 |succ n ih =>
  by_cases hu : u < 10
  ·rw [Lib.decDigits,dif_pos hu]; simp
  ·rw [Lib.decDigits,dif_neg hu]
   have : 1 ≤ n := by
    rcases Nat.eq_zero_or_pos n with h0 | h0
    ·subst h0; simp at h; omega
    ·exact h0
   have := ih (u / 10) this (by rw [Nat.pow_succ] at h; omega)
   simp; omega
theorem tV (n : Nat) (h : n < 10) : UInt8.ofNat (IntKind.u8.wrap (48 + (n : Int))).toNat = UInt8.ofNat (48 + n) := by
 have : IntKind.u8.wrap (48 + (n : Int)) = ((48 + n : Nat) : Int) := by
  rw [IntKind.wrap_u8]; omega
 rw [this]; rfl
theorem l1Num_nat : ∀ (n : Nat),n ≤ 9223372036854775807 → CallsTo EE 88 [i64 n] (· = sv (Lib.decDigits n)) := by
 intro n
 induction n using Nat.strongRecOn with
 | _ n ih =>
  intro hn
  refine callsTo_of_AW (fn := Tryz.f88) Tryz.func88 rfl (by kernel_rfl) rfl ?_
  conv => whnf
  refine kbi (fun h => ?_) (fun h => ?_)
  ·have hlt : n < 10 := by simp at h; omega
   conv => whnf
   refine ⟨[48 + (n : Int)].map fun m => IntKind.u8.wrap m,?_,?_⟩
   ·rw [zE (by omega) (by omega)]; rfl
   conv => whnf
   rw [Lib.decDigits,dif_pos hlt]
   exact congrArg (fun b => sv [b]) (tV n hlt)
  ·have hge : 10 ≤ n := by simp at h; omega
   conv => whnf
   refine ⟨by kernel_rfl,?_⟩
   conv => whnf
   refine ⟨by omega,?_⟩
   conv => whnf
   have e1 : IntKind.i64.wrap ((n : Int).tdiv 10) = ((n / 10 : Nat) : Int) := by
    rw [zE]
    ·rw [Int.tdiv_eq_ediv_of_nonneg (by omega)]; omega
    ·rw [Int.tdiv_eq_ediv_of_nonneg (by omega)]; omega
    ·rw [Int.tdiv_eq_ediv_of_nonneg (by omega)]; omega
   have hc := ih (n / 10) (by omega) (by omega)
   rw [← e1] at hc
   refine ⟨_,hc,?_⟩
   conv => whnf
   refine ⟨by omega,?_⟩
   conv => whnf
   have e2 : (n : Int).tmod 10 = ((n % 10 : Nat) : Int) := by rw [Int.tmod_eq_emod_of_nonneg (by omega)]; omega
   refine ⟨[48 + ((n % 10 : Nat) : Int)].map fun m => IntKind.u8.wrap m,?_,?_⟩
   ·rw [e2,zE (by omega) (by omega)]; rfl
   conv => whnf
   refine ⟨?_,?_⟩
   ·have := wQ (n / 10) 19 (by omega) (by omega)
    simp; omega
   conv => whnf
   conv => rhs; rw [Lib.decDigits,dif_neg (by omega)]
   exact congrArg (fun b => sv (Lib.decDigits (n / 10) ++ [b])) (tV (n % 10) (by omega))
theorem kW (n : Int) (h0 : 0 ≤ n) (h1 : n ≤ 9223372036854775807) : CallsTo EE 88 [i64 n] (· = sv (Lib.decDigits n.toNat)) := by
 have := l1Num_nat n.toNat (by omega)
 rwa [Int.toNat_of_nonneg h0] at this
def txt (xs : List Int) : List UInt8 := Lib.join (xs.map fun n => Lib.decDigits n.toNat) [44]
theorem cR (sep x : List UInt8) (r : List (List UInt8)) : Lib.joinTail sep (r ++ [x]) = Lib.joinTail sep r ++ (sep ++ x) := by simp [Lib.joinTail]
theorem txt_nil : txt [] = [] := rfl
theorem txt_one (xs : List Int) (h : 0 < xs.length) : txt (xs.take (0 + 1)) = Lib.decDigits (xs[0]).toNat := by
 rw [List.take_add_one,List.getElem?_eq_getElem h]
 simp [txt,Lib.join_one]
theorem u6 (xs : List Int) (k : Nat) (h : k < xs.length) (hk : 0 < k) : txt (xs.take (k + 1)) = txt (xs.take k) ++ [44] ++ Lib.decDigits (xs[k]).toNat := by
 rw [List.take_add_one,List.getElem?_eq_getElem h]
 generalize xs[k] = x
 cases xs with
 |nil => simp at h
 |cons y ys =>
  obtain ⟨j,rfl⟩ : ∃ j,k = j + 1 := ⟨k - 1,by omega⟩
  simp only [txt,List.take_succ_cons,List.map_append,List.map_cons,List.cons_append,Lib.join_cons,Option.toList,List.map_nil]
  rw [cR]
  simp
theorem iM (xs : List Int) (hp : ∀ x ∈ xs,InR x 0 999) : ∀ k,k ≤ xs.length → (txt (xs.take k)).length ≤ 4 * k := by
 intro k
 induction k with
 |zero => intro _; simp [txt_nil]
 |succ k ih =>
  intro hk
  have hlt : k < xs.length := by omega
  have := ih (by omega)
  have hd : (Lib.decDigits (xs[k]).toNat).length ≤ 3 := wQ _ 3 (by omega) (by have := hp _ (List.getElem_mem hlt); unfold InR at this; omega)
  rcases Nat.eq_zero_or_pos k with h0 | h0
  ·subst h0; rw [txt_one _ hlt]; omega
  ·rw [u6 _ _ hlt h0]; simp; omega
theorem l4List_ok (xs : List Int) (hp : Picks xs) : CallsTo EE 90 [sl (xs.map encInt)] (· = sv (txt xs)) := by
 have hx := hp.1
 refine callsTo_of_AW (fn := Tryz.f90) Tryz.func90 rfl (by kernel_rfl) rfl ?_
 conv => whnf
 refine yR (fun k : Nat => [(3,sv (txt (xs.take k))),(6,sl (xs.map encInt)),(7,i64 (xs.map encInt).length),(8,i64 k)]) (fun k => []) (fun k => xs.length - k) (fun k => k ≤ xs.length) 0 .refl ⟨rfl,rfl,rfl,rfl,trivial⟩ trivial (Nat.zero_le _) ?_
 rintro k τ H hk
 conv => whnf
 refine kbi (fun h => ?_) (fun h => ?_)
 ·have hlt := xM h
  have hr := hp.2 _ (List.getElem_mem hlt)
  unfold InR at hr
  have htl := iM xs hp.2 k hk
  have hd : (Lib.decDigits (xs[k]).toNat).length ≤ 3 := wQ _ 3 (by omega) (by omega)
  conv => whnf
  refine ⟨encInt xs[k],yB encInt hlt rfl,?_⟩
  conv => whnf
  refine kbi (fun h2 => ?_) (fun h2 => ?_)
  ·simp at h2
   conv => whnf
   refine ⟨?_,?_⟩
   ·simp; omega
   conv => whnf
   refine ⟨_,kW _ hr.1 (by omega),?_⟩
   rintro r rfl
   conv => whnf
   refine ⟨?_,?_⟩
   ·simp; omega
   conv => whnf
   refine ⟨k + 1,by omega,by show xs.length - (k + 1) < xs.length - k; omega,⟨?_,rfl,rfl,next_i64 hlt (by omega),trivial⟩,trivial⟩
   exact congrArg sv (u6 xs k hlt (by omega)).symm
  ·simp at h2
   subst h2
   conv => whnf
   refine ⟨_,kW _ hr.1 (by omega),?_⟩
   rintro r rfl
   conv => whnf
   refine ⟨?_,?_⟩
   ·simp [txt_nil]; omega
   conv => whnf
   refine ⟨1,by omega,by show xs.length - 1 < xs.length - 0; omega,⟨?_,rfl,rfl,next_i64 hlt (by omega),trivial⟩,trivial⟩
   exact congrArg sv (txt_one xs hlt).symm
 ·have hge : xs.length ≤ k := by simpa using h
  conv => whnf
  rw [List.take_of_length_le hge]
def dashT (s : List UInt8) : List UInt8 := if s = [] then [45] else s
end Ai
end
section
set_option maxRecDepth 100000
namespace Ai
open Go Go.Proofs
theorem in_ok (n lo hi : Int) : CallsTo EE 56 [i64 n,i64 lo,i64 hi] (· = bp (InR n lo hi)) := by
 refine callsTo_of_AW (fn := Tryz.f56) Tryz.func56 rfl (by kernel_rfl) rfl ?_
 conv => whnf
 repeat' (refine kbi (fun h => ?_) (fun h => ?_) <;> first | contradiction | conv => whnf)
 all_goals simp only [decide_eq_true_eq] at *
 all_goals first | exact bpt (by unfold InR; omega) | exact bpf (by unfold InR; omega)
def dT (c : Int) : Int := if c = 2 ∨ c = 3 ∨ c = 10 ∨ c = 11 ∨ c = 12 ∨ c = 13 ∨ c = 14 ∨ c = 17 then 1 else if c = 16 then 2 else 0
theorem names_ok (o : OpL) : CallsTo EE 157 [agg (encOp o)] (· = i64 (dT o.code)) := by
 refine callsTo_of_AW (fn := Tryz.f157) Tryz.func157 rfl (by kernel_rfl) rfl ?_
 conv => whnf
 repeat' (refine kbi (fun h => ?_) (fun h => ?_) <;> first | contradiction | conv => whnf)
 all_goals simp only [beq_iff_eq] at *
 all_goals refine oK ?_
 all_goals unfold dT
 all_goals first | rw [if_pos (by omega)] | rw [if_neg (by omega),if_pos (by omega)] | rw [if_neg (by omega),if_neg (by omega)]
theorem IsNaN_ok (x : Nat) : CallsTo EE 192 [.d (.flt x)] (· = bp (zM x = true)) := by
 refine callsTo_of_AW (fn := Tryz.f192) Tryz.func192 rfl (by kernel_rfl) rfl ?_
 conv => whnf
 refine kbi (fun h => ?_) (fun h => ?_)
 ·conv => whnf
  exact bpt (by rw [← dS]; exact h)
 ·conv => whnf
  exact bpf (by rw [← dS]; exact h)
theorem bits_run (b : Nat) (w : World) : (callFunc 193 #[.float .f64 b]).run Tryz.prog w = .ok (.value (.int .u64 b)) w := by
 kernel_rfl
theorem uL (x : Nat) : CallsTo EE 193 [.d (.flt x)] (fun r => ∃ b : Nat,r = .d (.int .u64 b) ∧ canon b = x) := by
 intro w A vs hI hA
 obtain ⟨hl,hr⟩ := hA
 have h1 : vs.size = 1 := hl.symm
 obtain ⟨v,hv⟩ : ∃ v,vs = #[v] := ⟨vs[0],by apply Array.ext (by simp [h1]); intro i h2 h3; simp at h3; subst h3; rfl⟩
 subst hv
 have := hr 0 _ v rfl rfl
 cases this with
 |d _ _ hd => cases hd with
  |flt b =>
   unfold Invokes
   rw [show Sem.run EE.P (callFunc 193 #[Value.float .f64 b]) w = _ from bits_run b w]
   exact ⟨_,⟨b,rfl,rfl⟩,RowKit.Below.refl _ _,.d _ _ (.int _ _)⟩
theorem tU {b : Nat} (h : canon b = 0) : b = 0 := by
 unfold canon at h
 cases hn : zM b with
 |true => rw [hn] at h; exact absurd (show nanC = 0 from h) (by decide)
 |false => rw [hn] at h; exact h
theorem bits_eq {v b c : Nat} (hb : canon b = v) (hc : canon c = 0) (h : ((b : Int) == (c : Int)) = true) : v = 0 := by
 have h1 : b = c := by
  have h2 : (b : Int) = c := by simpa using h
  omega
 rw [← hb,h1,hc]
theorem bits_ne {v b c : Nat} (hb : canon b = v) (hc : canon c = 0) (h : ¬ ((b : Int) == (c : Int)) = true) : ¬ v = 0 := by
 intro e
 subst e
 have h1 := tU hb
 have h2 := tU hc
 subst h1; subst h2
 exact h (by decide)
theorem SameNum0_ok (v : Nat) : CallsTo EE 158 [.d (.flt v),.d (.flt 0)] (· = bp (v = 0)) := by
 refine callsTo_of_AW (fn := Tryz.f158) Tryz.func158 rfl (by kernel_rfl) rfl ?_
 conv => whnf
 refine ocase (IsNaN_ok v) (fun h => ?_) (fun h => ?_)
 ·conv => whnf
  refine ocase (IsNaN_ok 0) (fun h3 => ?_) (fun h3 => ?_)
  ·exact absurd h3 (by decide)
  ·conv => whnf
   refine ⟨_,uL v,?_⟩
   rintro r ⟨b,rfl,hb⟩
   conv => whnf
   refine ⟨_,uL 0,?_⟩
   rintro r ⟨c,rfl,hc⟩
   conv => whnf
   refine kbi (fun h4 => ?_) (fun h4 => ?_)
   ·conv => whnf
    exact bpt (bits_eq hb hc h4)
   ·conv => whnf
    exact bpf (bits_ne hb hc h4)
 ·conv => whnf
  refine ⟨_,uL v,?_⟩
  rintro r ⟨b,rfl,hb⟩
  conv => whnf
  refine ⟨_,uL 0,?_⟩
  rintro r ⟨c,rfl,hc⟩
  conv => whnf
  refine kbi (fun h4 => ?_) (fun h4 => ?_)
  ·conv => whnf
   exact bpt (bits_eq hb hc h4)
  ·conv => whnf
   exact bpf (bits_ne hb hc h4)
def OpL.fitsI (o : OpL) : Prop := InR o.code 1 17 ∧ (0 < dT o.code ∨ o.a = 0) ∧ (1 < dT o.code ∨ o.b = 0) ∧ (o.code = 1 ∨ o.v = 0)
theorem fits_ok (o : OpL) : CallsTo EE 123 [agg (encOp o)] (· = bp o.fitsI) := by
  refine callsTo_of_AW (fn := Tryz.f123) Tryz.func123 rfl (by kernel_rfl) rfl ?_
  conv => whnf
  refine ⟨_, names_ok o, ?_⟩
  rintro r rfl
  conv => whnf
  repeat' first
    | (refine kbi (fun h => ?_) (fun h => ?_) <;> first | contradiction | conv => whnf)
    | (refine ocase (in_ok _ _ _) (fun h => ?_) (fun h => ?_) <;> first | contradiction | conv => whnf)
    | (refine ocase (SameNum0_ok _) (fun h => ?_) (fun h => ?_) <;> first | contradiction | conv => whnf)
  all_goals try simp only [decide_eq_true_eq, beq_iff_eq, gt_iff_lt] at *
  all_goals first
    | (refine bpt ?_; unfold OpL.fitsI; simp_all; done)
    | (refine bpf ?_; unfold OpL.fitsI; simp_all; done)
    | (refine bpf fun hm => ?_
       obtain ⟨b1, b2, b3, b4⟩ := hm
       rcases b2 with b2 | b2 <;> rcases b3 with b3 | b3 <;> rcases b4 with b4 | b4 <;> first | omega | contradiction)
def OpL.atI (p : ProgL) (many : Int) (o : OpL) : Prop := ((o.code = 2 ∨ o.code = 3) → InR o.a 0 (p.cells - 1)) ∧ ((o.code = 10 ∨ o.code = 11) → InR o.a 0 many) ∧ ((o.code = 12 ∨ o.code = 13) → InR o.a 0 (p.locks - 1)) ∧ (o.code = 14 → InR o.a 0 (p.rs.length - 1)) ∧ (o.code = 16 → InR o.a 0 (p.conds - 1) ∧ InR o.b 0 (p.locks - 1)) ∧ (o.code = 17 → InR o.a 0 (p.conds - 1))
def OpL.goodI (p : ProgL) (long : Int) (o : OpL) : Prop := o.fitsI ∧ o.atI p long
theorem isGood_ok (p : ProgL) (hp : p.headS) (long : Int) (o : OpL) : CallsTo EE 79 [agg (encProg p),agg (encOp o),i64 long] (· = bp (o.goodI p long)) := by
 obtain ⟨a1,a2,a3,a4⟩ := hp
 unfold InR at a1 a2 a3 a4
 have e1 : IntKind.i64.wrap (p.cells - 1) = p.cells - 1 := zE (by omega) (by omega)
 have e2 : IntKind.i64.wrap (p.locks - 1) = p.locks - 1 := zE (by omega) (by omega)
 have e3 : IntKind.i64.wrap (p.conds - 1) = p.conds - 1 := zE (by omega) (by omega)
 have e4 : IntKind.i64.wrap (((p.rs.map zO).length : Int) - 1) = (p.rs.length : Int) - 1 := by rw [List.length_map]; exact zE (by omega) (by omega)
 refine callsTo_of_AW (fn := Tryz.f79) Tryz.func79 rfl (by kernel_rfl) rfl ?_
 conv => whnf
 refine ocase (fits_ok o) (fun h0 => ?_) (fun h0 => ?_)
 rotate_left
 ·conv => whnf
  exact bpf fun hm => h0 hm.1
 conv => whnf
 repeat' first
  |(refine kbi (fun h => ?_) (fun h => ?_) <;> first | contradiction | conv => whnf)
  |(refine ocase (in_ok _ _ _) (fun h => ?_) (fun h => ?_) <;> first | contradiction | conv => whnf)
 all_goals simp only [beq_iff_eq,e1,e2,e3,e4] at *
 all_goals first
  |exact bpt ⟨h0,by unfold OpL.atI; refine ⟨?_,?_,?_,?_,?_,?_⟩ <;> intros <;> first | assumption | omega | exact ⟨by assumption,by assumption⟩⟩
  |exact bpf fun hm => by
    obtain ⟨_,a1,a2,a3,a4,a5,a6⟩ := hm
    first
     |exact absurd (a1 (by omega)) (by assumption)
     |exact absurd (a2 (by omega)) (by assumption)
     |exact absurd (a3 (by omega)) (by assumption)
     |exact absurd (a4 (by omega)) (by assumption)
     |exact absurd (a5 (by omega)).1 (by assumption)
     |exact absurd (a5 (by omega)).2 (by assumption)
     |exact absurd (a6 (by omega)) (by assumption)
end Ai
end
section
set_option maxRecDepth 100000
namespace Ai
open Go Go.Proofs Go.Shelf
theorem ent26 : ∀ args w,(callFunc 102 args).run Tryz.prog w = .ok (.enter 102 args) w := enters_of Tryz.func102 (by kernel_rfl) rfl
theorem ent60 : ∀ args w,(callFunc 139 args).run Tryz.prog w = .ok (.enter 139 args) w := enters_of Tryz.func139 (by kernel_rfl) rfl
theorem ent50 : ∀ args w,(callFunc 50 args).run Tryz.prog w = .ok (.enter 50 args) w := enters_of Tryz.func50 (by kernel_rfl) rfl
theorem below_grow (w : World) (k : Nat) (os : Array Obj) : RowKit.Below w.heap.size w (Sort.grow (w.drewN k) os) := by
 refine ⟨?_,?_,?_,?_,fun q hq => ?_⟩
 ·rfl
 ·rfl
 ·rfl
 ·simp [Sort.grow,World.drewN]
 ·show (w.heap ++ os)[q]? = w.heap[q]?
  exact Array.getElem?_append_left hq
theorem one_arg {w : World} {A : Nat → Prop} {x : AV} {vs : Array Value} (h : ARel w A [x] vs) : ∃ v,vs = #[v] ∧ VRel w (fun x => x < w.heap.size ∧ A x) (fun _ => none) (fun _ => none) x v := by
 obtain ⟨hl,hr⟩ := h
 have h1 : vs.size = 1 := hl.symm
 refine ⟨vs[0],?_,hr 0 x _ rfl (by simp [h1])⟩
 apply Array.ext (by simp [h1])
 intro i h2 h3
 simp at h3
 subst h3
 rfl
theorem two_args {w : World} {A : Nat → Prop} {x y : AV} {vs : Array Value} (h : ARel w A [x,y] vs) : ∃ v u,vs = #[v,u] ∧ VRel w (fun x => x < w.heap.size ∧ A x) (fun _ => none) (fun _ => none) x v ∧ VRel w (fun x => x < w.heap.size ∧ A x) (fun _ => none) (fun _ => none) y u := by
 obtain ⟨hl,hr⟩ := h
 have h1 : vs.size = 2 := hl.symm
 refine ⟨vs[0],vs[1],?_,hr 0 x _ rfl (by simp [h1]),hr 1 y _ rfl (by simp [h1])⟩
 apply Array.ext (by simp [h1])
 intro i h2 h3
 simp at h3
 match i,h3 with
 | 0,_ => rfl
 | 1,_ => rfl
theorem strRel {w : World} {ok : Nat → Prop} {m : Own} {H : Key → Option Ob} (l : List UInt8) : VRel w ok m H (sv l) (.string ⟨l.toArray⟩) := by
 have := RepD.str (w := w) (ok := ok) ⟨l.toArray⟩
 exact .d _ _ (by simpa using this)
theorem strInv {w : World} {ok : Nat → Prop} {l : List UInt8} {v : Value} (h : RepD w ok (.str l) v) : v = .string ⟨l.toArray⟩ := by
 cases h with
 |str s => simp
theorem intInv {w : World} {ok : Nat → Prop} {n : Int} {k : IntKind} {v : Value} (h : RepD w ok (.int k n) v) : v = .int k n := by cases h; rfl
theorem Itoa_ok (n : Int) (h0 : -9223372036854775808 ≤ n) (h1 : n ≤ 9223372036854775807) : CallsTo EE 102 [i64 n] (· = sv (Lib.itoa n)) := by
 intro w A vs hI hA
 obtain ⟨v,rfl,hv⟩ := one_arg hA
 cases hv with
 |d _ _ hd =>
  have := intInv hd
  subst this
  unfold Invokes
  rw [show Sem.run EE.P (callFunc 102 #[Value.int .i64 n]) w = _ from ent26 _ w]
  refine Calls.mono (show Calls Tryz.prog 102 _ _ _ from Any.strconv_Itoa Tryz.laysItoa n h0 h1 w hI) ?_
  rintro e w' ⟨rfl,k,os,rfl⟩
  exact ⟨_,rfl,_,rfl,below_grow w k os,strRel _⟩
theorem row1 {α : Type} {w : World} {ok : Nat → Prop} {xs : List α} {d : α → D} {v : Value} (h : RepD w ok (.sl (xs.map fun x => [d x])) v) :
  (xs = [] ∧ ∃ a cap,v = .slice a 0 cap) ∨ ∃ (b off cap : Nat) (us : Nat → Value),v = .slice (some ⟨b,off,none⟩) xs.length cap ∧ ok b ∧ xs.length ≤ cap ∧ ∀ (j : Nat) (x : α),xs[j]? = some x → w.cell? ⟨b,off + j,none⟩ = some (us j) ∧ RepD w ok (d x) (us j) := by
 generalize he : xs.map (fun x => [d x]) = els at h
 cases h with
 |sl0 a cap =>
  left
  cases xs with
  |nil => exact ⟨rfl,a,cap,rfl⟩
  |cons x xs => simp at he
 |sl _ sz b off cap us hok hlc hc hr =>
  subst he
  right
  cases xs with
  |nil => exact ⟨b,off,cap,us,rfl,hok,by simp,by simp⟩
  |cons x0 xs =>
   have hsz : sz = 1 := by
    have := (hc 0 [d x0] rfl).1
    simpa using this.symm
   subst hsz
   refine ⟨b,off,cap,us,by simp,hok,by simpa using hlc,fun j x hj => ?_⟩
   have hj2 : ((x0 :: xs).map fun x => [d x])[j]? = some [d x] := by rw [List.getElem?_map,hj]; rfl
   have h1 := (hc j _ hj2).2 0 (d x) rfl
   have h2 := hr j _ hj2 0 (d x) rfl
   simp only [Nat.mul_one,Nat.add_zero] at h1 h2
   exact ⟨h1,h2⟩
theorem rowLt {w : World} {b off : Nat} {v : Value} (h : w.cell? ⟨b,off,none⟩ = some v) : b < w.heap.size := by
 rcases Nat.lt_or_ge b w.heap.size with h1 | h1
 ·exact h1
 ·rw [World.cell?,Array.getElem?_eq_none h1] at h; cases h
def gS (s : List UInt8) : List D := [.str s]
theorem join_fin {w : World} {A : Nat → Prop} {vs : Array Value} {l : List UInt8} (hC : Calls Tryz.prog 139 vs w fun e w' => e = .returned (.string ⟨l.toArray⟩) ∧ RowKit.Below w.heap.size w w') :
  Calls Tryz.prog 139 vs w fun e w'' => ∃ v,e = .returned v ∧ ∃ r,r = sv l ∧ RowKit.Below w.heap.size w w'' ∧ mJ w w'' A r v := by
 refine Calls.mono hC ?_
 rintro e w' ⟨rfl,hb⟩
 exact ⟨_,rfl,_,rfl,hb,strRel l⟩
theorem Join_ok (xs : List (List UInt8)) (sep : List UInt8) (hN : xs.length ≤ 1048576) (hlen : (Lib.join xs sep).length ≤ 140737488355328) : CallsTo EE 139 [sl (xs.map gS),sv sep] (· = sv (Lib.join xs sep)) := by
 intro w A vs hI hA
 obtain ⟨v,u,rfl,hv,hu⟩ := two_args hA
 cases hu with
 |d _ _ hd2 =>
  have := strInv hd2
  subst this
  cases hv with
  |d _ _ hd =>
   unfold Invokes
   rw [show Sem.run EE.P (callFunc 139 #[v,Value.string ⟨sep.toArray⟩]) w = _ from ent60 _ w]
   have emp : ∀ (a : Option Addr) (c : Nat),Calls Tryz.prog 139 #[.slice a 0 c,.string ⟨sep.toArray⟩] w fun e w'' => ∃ v,e = .returned v ∧ ∃ r,r = sv (Lib.join [] sep) ∧ RowKit.Below w.heap.size w w'' ∧ mJ w w'' A r v := by
    intro a c
    refine Calls.mono (show Calls Tryz.prog 139 _ _ _ from Any.strings_Join_none Tryz.laysJoin Tryz.extraJoin a c ⟨sep.toArray⟩ w) ?_
    rintro e w' ⟨rfl,rfl⟩
    exact ⟨_,rfl,_,rfl,RowKit.Below.refl _ _,strRel []⟩
   rcases row1 (d := D.str) (xs := xs) hd with ⟨rfl,a,cap,rfl⟩ | ⟨b,off,cap,us,rfl,hok,hcap,hc⟩
   ·exact emp a cap
   ·have h1 : xs.length = (xs.map fun s => (⟨s.toArray⟩ : ByteArray)).length := by simp
    have h2 : (xs.map fun s => (⟨s.toArray⟩ : ByteArray)).map (·.data.toList) = xs := by
     rw [List.map_map]
     conv => rhs; rw [← List.map_id xs]
     exact List.map_congr_left fun s _ => by simp
    have h3 : Lib.join ((xs.map fun s => (⟨s.toArray⟩ : ByteArray)).map (·.data.toList)) (⟨sep.toArray⟩ : ByteArray).data.toList = Lib.join xs sep := by rw [h2]
    have hcells : ∀ (j : Nat) (x : ByteArray),(xs.map fun s => (⟨s.toArray⟩ : ByteArray))[j]? = some x → w.cell? ⟨b,off + j,none⟩ = some (.string x) := by
     intro j x hj
     rw [List.getElem?_map,Option.map_eq_some_iff] at hj
     obtain ⟨s,hs,rfl⟩ := hj
     obtain ⟨g1,g2⟩ := hc j s hs
     rw [g1,strInv g2]
    have hC := Any.strings_Join Tryz.laysJoin Tryz.extraJoin b off cap (xs.map fun s => (⟨s.toArray⟩ : ByteArray)) ⟨sep.toArray⟩ w hcells hok.1 (by rw [← h1]; omega) (by rw [← h1]; exact hcap) (by rw [h3]; exact hlen)
    rw [h3,← h1] at hC
    exact join_fin hC
end Ai
end
section
namespace Go.Proofs
open Go.Shelf
def Tryz.laysClone_ren : Go.Shelf.Ren := ⟨fun | 15 => 50 | n => n,fun | 22 => 25 | 3 => 3 | 4 => 4 | n => n,fun | n => n⟩
theorem Tryz.laysClone : Go.Proofs.Lays2.n15 Tryz.prog Tryz.laysClone_ren := {
 mixed := by kernel_rfl
 f15 := Tryz.func50.trans (congrArg some (by kernel_rfl))
 t3 := Tryz.underlying3
 a3 := Tryz.isAgg3
 z3 := Tryz.sizeOf3
 v3 := Tryz.zeroValue3
 t4 := Tryz.underlying4
 a4 := Tryz.isAgg4
 z4 := Tryz.sizeOf4
 v4 := Tryz.zeroValue4
 t22 := Tryz.underlying25
 a22 := Tryz.isAgg25
 z22 := Tryz.sizeOf25
 v22 := Tryz.zeroValue25
 i3 := by kernel_rfl }
end Go.Proofs
end
section
set_option maxRecDepth 100000
namespace Ai
open Go Go.Proofs Go.Shelf
theorem uq_of_owns {w w' : World} {A : Nat → Prop} {e : TypeId} {v : Value} {xs : List Int} (h : w'.ownsRow w.heap.size e 1 v xs.length (xs.map (Value.int .i64))) : mJ w w' A (.uq e 1 (xs.map encInt)) v := by
 obtain ⟨h1,h2⟩ := h
 rcases h2 with ⟨rfl,h0⟩ | ⟨g,cap,cur,rfl,hg,hcur,hn,hm,hsz,ht⟩
 ·left
  have : xs = [] := List.eq_nil_of_length_eq_zero h0
  subst this
  exact ⟨rfl,rfl⟩
 ·right
  refine ⟨g,cap,cur,by simp,hg,hcur,by simpa using hn,hm,hsz,fun j c hj => ?_⟩
  rw [List.getElem?_map,Option.map_eq_some_iff] at hj
  obtain ⟨x,hx,rfl⟩ := hj
  refine ⟨rfl,fun i d hi => ?_⟩
  match i,hi with
  | 0,hi =>
   simp only [encInt,List.getElem?_cons_zero,Option.some.injEq] at hi
   subst hi
   have hjl : j < xs.length := (List.getElem?_eq_some_iff.1 hx).1
   refine ⟨.int .i64 x,?_,.int _ _⟩
   have h3 : (cur.toList.take (xs.length * 1))[j]? = some (Value.int .i64 x) := by rw [ht,List.getElem?_map,hx]; rfl
   rw [List.getElem?_take_of_lt (by omega)] at h3
   simpa using h3
  |i + 1,hi => simp [encInt] at hi
theorem eW {w : World} {A : Nat → Prop} {vs : Array Value} {xs : List Int} (hC : Calls Tryz.prog 50 vs w fun e w' => ∃ v',e = .returned v' ∧ w'.ownsRow w.heap.size 3 1 v' xs.length (xs.map (Value.int .i64)) ∧ v' ≠ .slice none 0 0 ∧ RowKit.Below w.heap.size w w') :
  Calls Tryz.prog 50 vs w fun e w'' => ∃ v,e = .returned v ∧ ∃ r,r = .uq 3 1 (xs.map encInt) ∧ RowKit.Below w.heap.size w w'' ∧ mJ w w'' A r v := by
 refine Calls.mono hC ?_
 rintro e w' ⟨v,rfl,ho,_,hb⟩
 exact ⟨_,rfl,_,rfl,hb,uq_of_owns ho⟩
theorem Clone_ok (xs : List Int) (hx : xs.length ≤ 1048576) : CallsTo EE 50 [sl (xs.map encInt)] (· = .uq 3 1 (xs.map encInt)) := by
 intro w A vs hI hA
 obtain ⟨v,rfl,hv⟩ := one_arg hA
 cases hv with
 |d _ _ hd =>
  unfold Invokes
  rw [show Sem.run EE.P (callFunc 50 #[v]) w = _ from ent50 _ w]
  rcases row1 (d := D.int .i64) (xs := xs) hd with ⟨rfl,a,cap,rfl⟩ | ⟨b,off,cap,us,rfl,hok,hcap,hc⟩
  ·cases a with
   |none =>
    have hC := Any.slices_Clone_int_nil Tryz.laysClone 0 cap w
    refine Calls.mono (show Calls Tryz.prog 50 _ _ _ from hC) ?_
    rintro e w' ⟨rfl,rfl⟩
    exact ⟨_,rfl,_,rfl,RowKit.Below.refl _ _,.inl ⟨rfl,rfl⟩⟩
   |some ad =>
    have hC := Any.slices_Clone_int_zero Tryz.laysClone ad cap w
    exact eW (xs := []) hC
  ·have hcells : ∀ j,j < xs.length → w.cell? ⟨b,off + j,none⟩ = some (.int .i64 (xs.getD j 0)) := by
    intro j hj
    obtain ⟨g1,g2⟩ := hc j xs[j] (List.getElem?_eq_getElem hj)
    rw [g1,intInv g2]
    simp [List.getD_eq_getElem?_getD,List.getElem?_eq_getElem hj]
   have hC := Any.slices_Clone_int Tryz.laysClone b off xs.length cap xs w (Nat.le_refl _) (by omega) hcells
   rw [List.take_of_length_le (Nat.le_refl _)] at hC
   exact eW hC
end Ai
end
section
set_option maxRecDepth 100000
namespace Ai
open Go Go.Proofs Go.Shelf Go.Sort Go.RowKit
def sorted (zs : List Int) : List Int := zs.mergeSort fun x y => decide (x ≤ y)
end Ai
end
section
set_option maxRecDepth 100000
namespace Ai
open Go Go.Proofs
def PctL.goodI (s : PctL) : Prop := s.ranks.length = 5 ∧ (Lib.compact (sorted s.ranks)).length = 5 ∧ Rise (Lib.compact (sorted s.ranks)) 0 4 ∧ s.changes.length ≤ 4 ∧ Rise s.changes 0 199
end Ai
end
section
set_option maxRecDepth 100000
namespace Ai
open Go Go.Proofs
theorem indexOp_ok (xs : List OpL) (hx : xs.length ≤ 1048576) (g : FuncId) (c1 c2 : List D) (P : OpL → Prop) (hc : ∀ x ∈ xs,CallsTo EE g ([agg (encOp x)] ++ [.fp c1,.fp c2]) (· = bp (P x))) :
  CallsTo EE 122 [sl (xs.map encOp),.fn g [.fp c1,.fp c2]] (fun r => ∃ n : Int,r = i64 n ∧ (0 ≤ n ↔ ∃ x ∈ xs,P x)) := by
 refine callsTo_of_AW (fn := Tryz.f122) Tryz.func122 rfl (by kernel_rfl) rfl ?_
 conv => whnf
 refine yR (fun k : Nat => [(0,sl (xs.map encOp)),(1,.fn g [.fp c1,.fp c2]),(6,sl (xs.map encOp)),(7,i64 (xs.map encOp).length),(8,i64 k)]) (fun k => []) (fun k => xs.length - k) (fun k => k ≤ xs.length ∧ ∀ x ∈ xs.take k,¬ P x) 0 .refl ⟨rfl,rfl,rfl,rfl,rfl,trivial⟩ trivial ⟨Nat.zero_le _,qC⟩ ?_
 rintro k τ H ⟨hk,ih⟩
 conv => whnf
 refine kbi (fun h => ?_) (fun h => ?_)
 ·have hlt := xM h
  conv => whnf
  refine ⟨encOp xs[k],yB encOp hlt rfl,?_⟩
  conv => whnf
  refine ocase (hc _ (List.getElem_mem hlt)) (fun h1 => ?_) (fun h1 => ?_)
  ·conv => whnf
   exact ⟨_,rfl,fun _ => ⟨_,List.getElem_mem hlt,h1⟩,fun _ => by omega⟩
  ·conv => whnf
   exact ⟨k + 1,⟨by omega,qD ih hlt h1⟩,by show xs.length - (k + 1) < xs.length - k; omega,⟨rfl,rfl,rfl,rfl,next_i64 hlt (by omega),trivial⟩,trivial⟩
 ·have hge : xs.length ≤ k := by simpa using h
  have hall := kF ih hge
  conv => whnf
  exact ⟨_,rfl,fun h => absurd h (by decide),fun ⟨x,hx,hp⟩ => absurd hp (hall x hx)⟩
theorem cV (xs : List OpL) (hx : xs.length ≤ 1048576) (g : FuncId) (c1 c2 : List D) (P : OpL → Prop) (hc : ∀ x ∈ xs,CallsTo EE g ([agg (encOp x)] ++ [.fp c1,.fp c2]) (· = bp (P x))) :
  CallsTo EE 77 [sl (xs.map encOp),.fn g [.fp c1,.fp c2]] (· = bp (∃ x ∈ xs,P x)) := by
 refine callsTo_of_AW (fn := Tryz.f77) Tryz.func77 rfl (by kernel_rfl) rfl ?_
 conv => whnf
 refine ⟨_,indexOp_ok xs hx g c1 c2 P hc,?_⟩
 rintro r ⟨n,rfl,hn⟩
 conv => whnf
 refine kbi (fun h => ?_) (fun h => ?_)
 ·conv => whnf
  exact bpt (hn.1 (by simpa using h))
 ·conv => whnf
  exact bpf fun hm => h (by simpa using hn.2 hm)
theorem oL (p : ProgL) (hp : p.headS) (r : List OpL) (o : OpL) : CallsTo EE 78 ([agg (encOp o)] ++ [.fp (encProg p),.fp (zO r)]) (· = bp (¬ o.goodI p r.length)) := by
 refine callsTo_of_AW (fn := Tryz.f78) Tryz.func78 rfl (by kernel_rfl) rfl ?_
 conv => whnf
 have hop : CallsTo EE 79 [agg (encProg p),agg (encOp o),i64 (r.map encOp).length] (· = bp (o.goodI p r.length)) := by
  rw [List.length_map]
  exact isGood_ok p hp _ o
 refine ocase hop (fun h => ?_) (fun h => ?_)
 ·conv => whnf
  exact bpf fun hm => hm h
 ·conv => whnf
  exact bpt h
def ProgL.goodI (p : ProgL) : Prop := p.headS ∧ ∀ r ∈ p.rs,r.length ≤ 24 ∧ ∀ o ∈ r,o.goodI p r.length
theorem x9 (p : ProgL) (hs : p.rs.length ≤ 1048576 ∧ ∀ x ∈ p.rs,x.length ≤ 1048576) : CallsTo EE 43 [agg (encProg p)] (· = bp p.goodI) := by
 refine callsTo_of_AW (fn := Tryz.f43) Tryz.func43 rfl (by kernel_rfl) rfl ?_
 conv => whnf
 refine ocase (in_ok _ _ _) (fun h1 => ?_) (fun h1 => ?_)
 rotate_left
 ·conv => whnf
  exact bpf fun hm => h1 hm.1.1
 conv => whnf
 refine ocase (in_ok _ _ _) (fun h2 => ?_) (fun h2 => ?_)
 rotate_left
 ·conv => whnf
  exact bpf fun hm => h2 hm.1.2.1
 conv => whnf
 refine ocase (in_ok _ _ _) (fun h3 => ?_) (fun h3 => ?_)
 rotate_left
 ·conv => whnf
  exact bpf fun hm => h3 hm.1.2.2.1
 conv => whnf
 refine ocase (in_ok _ _ _) (fun h4 => ?_) (fun h4 => ?_)
 rotate_left
 ·conv => whnf
  exact bpf fun hm => h4 (by simpa using hm.1.2.2.2)
 have hh : p.headS := ⟨h1,h2,h3,by simpa using h4⟩
 conv => whnf
 refine yR (fun k : Nat => [(1,.ptr 1 0),(29,sl (p.rs.map zO)),(30,i64 (p.rs.map zO).length),(31,i64 k)]) (fun k => [(1,.vs 31 ((encProg p).map .d))]) (fun k => p.rs.length - k) (fun k => k ≤ p.rs.length ∧ ∀ r ∈ p.rs.take k,r.length ≤ 24 ∧ ∀ o ∈ r,o.goodI p r.length) 0 .refl ⟨rfl,rfl,rfl,rfl,trivial⟩ ⟨rfl,trivial⟩ ⟨Nat.zero_le _,qC⟩ ?_
 rintro k τ H ⟨hk,ih⟩
 conv => whnf
 refine kbi (fun h => ?_) (fun h => ?_)
 ·have hlt := xM h
  conv => whnf
  refine ⟨zO p.rs[k],yB zO hlt rfl,?_⟩
  conv => whnf
  have hrl := hs.2 _ (List.getElem_mem hlt)
  refine kbi (fun h5 => ?_) (fun h5 => ?_)
  ·conv => whnf
   refine bpf fun hm => ?_
   have := (hm.2 _ (List.getElem_mem hlt)).1
   simp at h5
   omega
  ·conv => whnf
   have hcf := cV p.rs[k] hrl 78 (encProg p) (zO p.rs[k]) (fun o => ¬ o.goodI p p.rs[k].length) (fun o _ => oL p hh p.rs[k] o)
   refine .inl (fcase hcf (fun h6 => ?_) (fun h6 => ?_))
   ·conv => whnf
    refine bpf fun hm => ?_
    obtain ⟨o,ho,hb⟩ := h6
    exact hb ((hm.2 _ (List.getElem_mem hlt)).2 o ho)
   ·conv => whnf
    simp at h5
    refine ⟨k + 1,⟨by omega,qD ih hlt ⟨by omega,fun o ho => ?_⟩⟩,by show p.rs.length - (k + 1) < p.rs.length - k; omega,⟨rfl,rfl,rfl,next_i64 hlt (by omega),trivial⟩,⟨rfl,trivial⟩⟩
    exact Classical.byContradiction fun hb => h6 ⟨o,ho,hb⟩
 ·have hge : p.rs.length ≤ k := by simpa using h
  conv => whnf
  exact bpt ⟨hh,kF ih hge⟩
end Ai
end
section
set_option maxRecDepth 100000
namespace Ai
open Go Go.Proofs
theorem op_same (p : ProgL) (hp : p.headS) (n : Nat) (hn : n ≤ 24) (o : OpL) : o.goodS p n ↔ o.goodI p n := by
 obtain ⟨a1,a2,a3,a4⟩ := hp
 unfold InR at a1 a2 a3 a4
 have hc : (0 < dT o.code ↔ (bT o.code ∨ o.code = 16)) ∧ (1 < dT o.code ↔ o.code = 16) := by
  unfold dT bT
  split
  ·omega
  ·split <;> omega
 unfold OpL.goodS OpL.goodI OpL.plainS OpL.fitsI OpL.atS OpL.atI InR
 rw [hc.1,hc.2]
 unfold bT
 constructor
 ·rintro ⟨⟨b1,b2,b3,b4,b5,b6⟩,c1,c2,c3,c4,c5,c6⟩
  refine ⟨⟨b1,?_,b6,b4⟩,?_,?_,?_,?_,?_,?_⟩ <;> omega
 ·rintro ⟨⟨b1,b2,b3,b4⟩,c1,c2,c3,c4,c5,c6⟩
  refine ⟨⟨b1,?_,?_,b4,?_,b3⟩,?_,?_,?_,?_,?_,?_⟩ <;> omega
theorem aR (p : ProgL) : p.goodS ↔ p.goodI := by
 constructor
 ·rintro ⟨h1,h2⟩
  exact ⟨h1,fun r hr => ⟨(h2 r hr).2,fun o ho => (op_same p h1 _ (h2 r hr).2 o).1 ((h2 r hr).1 o ho)⟩⟩
 ·rintro ⟨h1,h2⟩
  exact ⟨h1,fun r hr => ⟨fun o ho => (op_same p h1 _ (h2 r hr).1 o).2 ((h2 r hr).2 o ho),(h2 r hr).1⟩⟩
theorem size_le {α : Type} (f : α → Nat) (xs : List α) (n : Nat) (h : fM f xs ≤ n) : xs.length ≤ n ∧ ∀ x ∈ xs,f x ≤ n := by
 unfold fM at h
 refine ⟨by omega,fun x hx => ?_⟩
 have : f x ≤ (xs.map f).sum := by
  clear h
  induction xs with
  |nil => cases hx
  |cons y ys ih =>
   simp only [List.map_cons,List.sum_cons]
   rcases List.mem_cons.1 hx with h1 | h1
   ·subst h1; omega
   ·have := ih h1; omega
 omega
end Ai
end
section
set_option maxRecDepth 100000
namespace Ai
open Go Go.Proofs Go.Deep
def Fits (w : World) (ds : List D) (cs : List Value) : Prop := ds.length = cs.length ∧ ∀ (i : Nat) (d : D) (u : Value),ds[i]? = some d → cs[i]? = some u → RepD w (fun b => b < w.heap.size ∧ True) d u
section
variable {H : Type} {enc' : TypeId × Value → H} {w : World} {sp : Nat → Bool} {held : Bool}
theorem list_of {α : Type} {p : Nat → α → Prop} : ∀ n,(∀ i,i < n → ∃ a,p i a) → ∃ xs : List α,xs.length = n ∧ ∀ (i : Nat) (a : α),xs[i]? = some a → p i a
 | 0,_ => ⟨[],rfl,by simp⟩
 |n + 1,h => by
  obtain ⟨xs,hl,hx⟩ := list_of n fun i hi => h i (by omega)
  obtain ⟨a,ha⟩ := h n (by omega)
  refine ⟨xs ++ [a],by simp [hl],fun i b hb => ?_⟩
  rcases Nat.lt_or_ge i n with h1 | h1
  ·rw [List.getElem?_append_left (by omega)] at hb
   exact hx i b hb
  ·rw [List.getElem?_append_right (by omega)] at hb
   have : i = n := by
    have := (List.getElem?_eq_some_iff.1 hb).1
    simp at this
    omega
   subst this
   rw [hl,Nat.sub_self] at hb
   simp at hb
   subst hb
   exact ha
theorem spot_none {a : Addr} {v : Value} (h : w.cell? a = some v) : a = ⟨a.block,a.off,none⟩ := by
 obtain ⟨b,off,s⟩ := a
 cases s with
 |none => rfl
 |some s =>
  simp only [World.cell?] at h
  split at h <;> simp at h
theorem o0 (b off k : Nat) : (⟨b,off,none⟩ : Addr).add k = ⟨b,off + k,none⟩ := by
 unfold Addr.add
 split
 ·rename_i h; subst h; rfl
 ·rfl
theorem j7 {α : Type} {t e : TypeId} (ht : Tryz.prog.underlying t = some (.slice e)) (sz : Nat) (hsz : Tryz.prog.cellsOf e = sz) (h0 : 0 < sz) (enc : α → List D) (wf : α → Prop)
  (hel : ∀ n cs x,DataW.trod enc' Tryz.prog w 0 sp held n e cs = some x → ∃ a,wf a ∧ Fits w (enc a) cs) {fuel : Nat} {cs : List Value} {x : DataW H × List MemPlace}
  (h : DataW.trod enc' Tryz.prog w 0 sp held fuel t cs = some x) : ∃ xs : List α,(∀ a ∈ xs,wf a) ∧ xs.length ≤ 9223372036854775807 ∧ Fits w [.sl (xs.map enc)] cs := by
 rcases open_slice ht h with ⟨rfl,_⟩ | ⟨a,len,cap,m,n,Dd,Pl,rfl,hb,hl,hm,hmm,hx,hall⟩
 ·refine ⟨[],by simp,by simp,rfl,fun i d u hd hu => ?_⟩
  match i,hd,hu with
  | 0,hd,hu => simp at hd hu; subst hd; subst hu; exact .sl0 _ _
  |i + 1,hd,hu => simp at hd
 ·have hlm : len ≤ m := by rw [hmm]; split <;> omega
  obtain ⟨xs,hxl,hxs⟩ := list_of (α := α) (p := fun i y => wf y ∧ ∃ cs',w.cells? 0 (a.add (i * sz)) sz = some cs' ∧ Fits w (enc y) cs') len fun i hi => by
   obtain ⟨cs',h1,h2⟩ := hall i (by omega)
   obtain ⟨y,hy1,hy2⟩ := hel _ _ _ h2
   rw [hsz] at h1
   exact ⟨y,hy1,cs',h1,hy2⟩
  have hmx : maxLen = 9223372036854775807 := rfl
  refine ⟨xs,fun y hy => ?_,by omega,rfl,fun i d u hd hu => ?_⟩
  ·obtain ⟨i,hi⟩ := List.getElem?_of_mem hy
   exact (hxs i y hi).1
  match i,hd,hu with
  |i + 1,hd,hu => simp at hd
  | 0,hd,hu =>
   simp at hd hu
   subst hd; subst hu
   cases xs with
   |nil =>
    simp at hxl
    subst hxl
    exact .sl0 _ _
   |cons y0 ys =>
    have hA : a = ⟨a.block,a.off,none⟩ := by
     obtain ⟨_,cs',hc,hf1,hf2⟩ := hxs 0 y0 rfl
     obtain ⟨_,hcl,hcc⟩ := World.cells?_some hc
     have h9 := hcc 0 h0
     have h10 : cs'[0]? = some cs'[0] := List.getElem?_eq_getElem (by omega)
     rw [h10] at h9
     have e : (a.add (0 * sz)).add 0 = a := by simp [Addr.add]
     rw [e] at h9
     exact spot_none h9
    obtain ⟨b,off,spt⟩ := a
    have hsp : spt = none := by simpa using hA
    subst hsp
    clear hA
    have cellAt : ∀ (j : Nat) (y : α),(y0 :: ys)[j]? = some y → (enc y).length = sz ∧ ∀ (q : Nat) (d : D),(enc y)[q]? = some d → ∃ u,w.cell? ⟨b,off + (j * sz + q),none⟩ = some u ∧ RepD w (fun b => b < w.heap.size ∧ True) d u := by
     intro j y hj
     obtain ⟨_,cs',hc,hf1,hf2⟩ := hxs j y hj
     obtain ⟨_,hcl,hcc⟩ := World.cells?_some hc
     refine ⟨by omega,fun q d hq => ?_⟩
     have hql : q < sz := by have := (List.getElem?_eq_some_iff.1 hq).1; omega
     have hq2 : cs'[q]? = some cs'[q] := List.getElem?_eq_getElem (by omega)
     have h9 := hcc q hql
     rw [o0,o0,hq2,Nat.add_assoc] at h9
     exact ⟨cs'[q],h9,hf2 q d _ hq hq2⟩
    have hlt : b < w.heap.size := by
     obtain ⟨g1,g2⟩ := cellAt 0 y0 rfl
     have h00 : 0 < (enc y0).length := by omega
     obtain ⟨u,hu,_⟩ := g2 0 _ (List.getElem?_eq_getElem h00)
     exact rowLt hu
    have := RepD.sl (w := w) (ok := fun b => b < w.heap.size ∧ True) ((y0 :: ys).map enc) sz b off cap (fun q => (w.cell? ⟨b,off + q,none⟩).getD undef) ⟨hlt,trivial⟩ (by rw [List.length_map,hxl]; exact hl)
     (fun j c hj => by
      rw [List.getElem?_map,Option.map_eq_some_iff] at hj
      obtain ⟨y,hy,rfl⟩ := hj
      obtain ⟨g1,g2⟩ := cellAt j y hy
      refine ⟨g1,fun q d hq => ?_⟩
      obtain ⟨u,hu,_⟩ := g2 q d hq
      rw [hu]; rfl)
     (fun j c hj q d hq => by
      rw [List.getElem?_map,Option.map_eq_some_iff] at hj
      obtain ⟨y,hy,rfl⟩ := hj
      obtain ⟨g1,g2⟩ := cellAt j y hy
      obtain ⟨u,hu,hr⟩ := g2 q d hq
      rw [hu]; exact hr)
    rw [List.length_map,hxl] at this
    exact this
theorem rd_int {n : Nat} {cs : List Value} {x : DataW H × List MemPlace} (h : DataW.trod enc' Tryz.prog w 0 sp held n 3 cs = some x) : ∃ k : Int,Fits w [di k] cs := by
 obtain ⟨k,rfl,_,_⟩ := DataW.trod_int Tryz.underlying3 h
 refine ⟨k,rfl,fun i d u hd hu => ?_⟩
 match i,hd,hu with
 | 0,hd,hu => simp at hd hu; subst hd; subst hu; exact .int _ _
 |i + 1,hd,hu => simp at hd
theorem rd_str {n : Nat} {cs : List Value} {x : DataW H × List MemPlace} (h : DataW.trod enc' Tryz.prog w 0 sp held n 9 cs = some x) : ∃ s : List UInt8,s.length ≤ 9223372036854775807 ∧ Fits w [.str s] cs := by
 obtain ⟨s,rfl,_,hs⟩ := DataW.trod_string Tryz.underlying9 h
 refine ⟨s.data.toList,?_,rfl,fun i d u hd hu => ?_⟩
 ·have : maxLen = 9223372036854775807 := rfl
  have h2 : s.data.toList.length = s.size := rfl
  omega
 match i,hd,hu with
 | 0,hd,hu => simp at hd hu; subst hd; subst hu; exact .str _
 |i + 1,hd,hu => simp at hd
theorem rd_flt {n : Nat} {cs : List Value} {x : DataW H × List MemPlace} (h : DataW.trod enc' Tryz.prog w 0 sp held n 105 cs = some x) : ∃ v : Nat,v < 18446744073709551616 ∧ Fits w [.flt v] cs := by
 cases n with
 |zero => simp [DataW.trod] at h
 |succ n =>
  unfold DataW.trod at h
  rw [Tryz.underlying105] at h
  split at h <;> simp_all
  rename_i kk b e2
  obtain ⟨⟨e1,hb⟩,_⟩ := h
  subst e2
  have hb0 : (Lit.float FloatKind.f64 b).wf = true := hb
  refine ⟨canon b,?_,rfl,fun i d u hd hu => ?_⟩
  ·have hb2 : b < 18446744073709551616 := by simpa [Lit.wf] using hb0
   unfold canon nanC
   cases zM b <;> simp <;> omega
  match i,hd,hu with
  | 0,hd,hu => simp at hd hu; subst hd; subst hu; exact .flt _
  |i + 1,hd,hu => simp at hd
theorem fits_app {ds ds2 : List D} {cs : List Value} {k : Nat} (h1 : Fits w ds (cs.take k)) (hk : ds.length = k) (h2 : Fits w ds2 (cs.drop k)) (hc : k ≤ cs.length) : Fits w (ds ++ ds2) cs := by
 refine ⟨by have := h2.1; simp at this ⊢; omega,fun i d u hd hu => ?_⟩
 rcases Nat.lt_or_ge i k with h | h
 ·rw [List.getElem?_append_left (by omega)] at hd
  exact h1.2 i d u hd (by rw [List.getElem?_take_of_lt h]; exact hu)
 ·rw [List.getElem?_append_right (by omega)] at hd
  exact h2.2 (i - k) d u (by rw [hk] at hd; exact hd) (by rw [List.getElem?_drop]; rw [show k + (i - k) = i by omega]; exact hu)
theorem uA {d : D} {ds : List D} {cs : List Value} {k : Nat} (h1 : Fits w [d] ((cs.drop k).take 1)) (h2 : Fits w ds (cs.drop (k + 1))) : Fits w (d :: ds) (cs.drop k) := by
 have hl : 1 ≤ (cs.drop k).length := by
  have := h1.1
  simp at this ⊢
  omega
 refine fits_app (ds := [d]) (k := 1) h1 rfl ?_ hl
 rw [List.drop_drop]
 exact h2
theorem p6 {cs : List Value} {k : Nat} (h : cs.length = k) : Fits w [] (cs.drop k) := ⟨by simp [h],by simp⟩
def OpL.fl (o : OpL) : Prop := o.v < 18446744073709551616
theorem rd_op {n : Nat} {cs : List Value} {x : DataW H × List MemPlace} (h : DataW.trod enc' Tryz.prog w 0 sp held n 151 cs = some x) : ∃ o : OpL,o.fl ∧ Fits w (encOp o) cs := by
 obtain ⟨xs,m,_,_,hcl,hxl,hf⟩ := DataW.trod_struct Tryz.underlying151 h
 have c3 : Tryz.prog.cellsOf 3 = 1 := by kernel_rfl
 have c105 : Tryz.prog.cellsOf 105 = 1 := by kernel_rfl
 have c151 : Tryz.prog.cellsOf 151 = 4 := by kernel_rfl
 have hxl4 : xs.length = 4 := hxl
 have g0 : DataW.trod enc' Tryz.prog w 0 sp held m 3 ((cs.drop 0).take (Tryz.prog.cellsOf 3)) = xs[0]? := hf 0 _ rfl
 have g1 : DataW.trod enc' Tryz.prog w 0 sp held m 3 ((cs.drop 1).take (Tryz.prog.cellsOf 3)) = xs[1]? := hf 1 _ rfl
 have g2 : DataW.trod enc' Tryz.prog w 0 sp held m 3 ((cs.drop 2).take (Tryz.prog.cellsOf 3)) = xs[2]? := hf 2 _ rfl
 have g3 : DataW.trod enc' Tryz.prog w 0 sp held m 105 ((cs.drop 3).take (Tryz.prog.cellsOf 105)) = xs[3]? := hf 3 _ rfl
 simp only [c3,c105] at g0 g1 g2 g3
 rw [List.getElem?_eq_getElem (by omega)] at g0 g1 g2 g3
 obtain ⟨k0,f0⟩ := rd_int g0
 obtain ⟨k1,f1⟩ := rd_int g1
 obtain ⟨k2,f2⟩ := rd_int g2
 obtain ⟨v,hv,f3⟩ := rd_flt g3
 exact ⟨⟨k0,k1,k2,v⟩,hv,uA (k := 0) f0 (uA (k := 1) f1 (uA (k := 2) f2 (uA (k := 3) f3 (p6 (by omega)))))⟩
theorem c3 : Tryz.prog.cellsOf 3 = 1 := by kernel_rfl
theorem rd_row {n : Nat} {cs : List Value} {x : DataW H × List MemPlace} (h : DataW.trod enc' Tryz.prog w 0 sp held n 103 cs = some x) : ∃ l : List OpL,(l.length ≤ 9223372036854775807 ∧ ∀ o ∈ l,o.fl) ∧ Fits w (zO l) cs := by
 obtain ⟨xs,hw,hl,hf⟩ := j7 (α := OpL) Tryz.underlying103 4 (by kernel_rfl) (by omega) encOp OpL.fl (fun n cs x h => rd_op h) h
 exact ⟨xs,⟨hl,hw⟩,hf⟩
theorem rd_rows {n : Nat} {cs : List Value} {x : DataW H × List MemPlace} (h : DataW.trod enc' Tryz.prog w 0 sp held n 22 cs = some x) : ∃ l : List (List OpL),(l.length ≤ 9223372036854775807 ∧ ∀ r ∈ l,r.length ≤ 9223372036854775807 ∧ ∀ o ∈ r,o.fl) ∧ Fits w [.sl (l.map zO)] cs := by
 obtain ⟨xs,hw,hl,hf⟩ := j7 (α := List OpL) Tryz.underlying22 1 (by kernel_rfl) (by omega) zO (fun r => r.length ≤ 9223372036854775807 ∧ ∀ o ∈ r,o.fl) (fun n cs x h => rd_row h) h
 exact ⟨xs,⟨hl,hw⟩,hf⟩
theorem rd_prog {n : Nat} {cs : List Value} {x : DataW H × List MemPlace} (h : DataW.trod enc' Tryz.prog w 0 sp held n 24 cs = some x) : ∃ p : ProgL,(p.wf ∧ p.flt) ∧ Fits w (encProg p) cs := by
 obtain ⟨xs,m,_,_,hcl,hxl,hf⟩ := DataW.trod_struct Tryz.underlying24 h
 have c22 : Tryz.prog.cellsOf 22 = 1 := by kernel_rfl
 have c24 : Tryz.prog.cellsOf 24 = 4 := by kernel_rfl
 have hxl4 : xs.length = 4 := hxl
 have g0 : DataW.trod enc' Tryz.prog w 0 sp held m 3 ((cs.drop 0).take (Tryz.prog.cellsOf 3)) = xs[0]? := hf 0 _ rfl
 have g1 : DataW.trod enc' Tryz.prog w 0 sp held m 3 ((cs.drop 1).take (Tryz.prog.cellsOf 3)) = xs[1]? := hf 1 _ rfl
 have g2 : DataW.trod enc' Tryz.prog w 0 sp held m 3 ((cs.drop 2).take (Tryz.prog.cellsOf 3)) = xs[2]? := hf 2 _ rfl
 have g3 : DataW.trod enc' Tryz.prog w 0 sp held m 22 ((cs.drop 3).take (Tryz.prog.cellsOf 22)) = xs[3]? := hf 3 _ rfl
 simp only [c3,c22] at g0 g1 g2 g3
 rw [List.getElem?_eq_getElem (by omega)] at g0 g1 g2 g3
 obtain ⟨k0,f0⟩ := rd_int g0
 obtain ⟨k1,f1⟩ := rd_int g1
 obtain ⟨k2,f2⟩ := rd_int g2
 obtain ⟨v,⟨hv1,hv2⟩,f3⟩ := rd_rows g3
 exact ⟨⟨k0,k1,k2,v⟩,⟨⟨hv1,fun r hr => (hv2 r hr).1⟩,fun r hr => (hv2 r hr).2⟩,uA (k := 0) f0 (uA (k := 1) f1 (uA (k := 2) f2 (uA (k := 3) f3 (p6 (by omega)))))⟩
end
end Ai
end
section
set_option maxRecDepth 100000
namespace Ai
open Go Go.Proofs
structure Th where
 rt : Int
 pc : Int
 st : Int
 cond : Int
 lock : Int
 stack : List Nat
structure StL where
 ths : List Th
 cells : List Nat
 owner : List Int
 fault : Int
structure Ev where
 th : Int
 kind : Int
 obj : Int
 lock : Int
 pc : Int
def encF (x : Nat) : List D := [.flt x]
def zF (t : Th) : List D := [di t.rt,di t.pc,di t.st,di t.cond,di t.lock,.sl (t.stack.map encF)]
def bA (t : Th) : List D := [di t.rt,di t.pc,di t.st,di t.cond,di t.lock,.nil]
def stk (t : Th) : List (List D) := t.stack.map encF
def encSt (s : StL) : List D := [.sl (s.ths.map zF),.sl (s.cells.map encF),.sl (s.owner.map encInt),di s.fault]
def encEv (e : Ev) : List D := [di e.th,di e.kind,di e.obj,di e.lock,di e.pc]
def jY (s : StL) : List AV := [.uqd 123 6 5 105 1 (s.ths.map bA) (s.ths.map stk),.uq 105 1 (s.cells.map encF),.uq 3 1 (s.owner.map encInt),.d (di s.fault)]
def thRows (o : Nat) (l : List Th) : List (List AV) := ownRows o 5 (l.map bA) (l.map stk)
def thRow (o j : Nat) (t : Th) : List AV := [i64 t.rt,i64 t.pc,i64 t.st,i64 t.cond,i64 t.lock,.ref (.s o j) 0 t.stack.length]
theorem xF {o : Nat} {l : List Th} {j : Nat} (h : j < l.length) : (thRows o l)[j]? = some (thRow o j l[j]) := by
 simp only [thRows,ownRows,List.getElem?_mapIdx,List.getElem?_map,List.getElem?_eq_getElem h,Option.map_some,Option.some.injEq,List.getD_eq_getElem?_getD,Option.getD_some]
 simp [thRow,bA,stk]
theorem zQ {o : Nat} {l : List Th} : (thRows o l).length = l.length := by simp [thRows,ownRows]
theorem zW {p : Key → Bool} {o j : Nat} {t : Th} (h : p (.s o j) = false) : scrPL p (thRow o j t) = thRow o j t := by
 simp [thRow,scrPL,scrP,h]
theorem yE {p : Key → Bool} {o : Nat} {l : List Th} (h : ∀ j,j < l.length → p (.s o j) = false) : (thRows o l).map (scrPL p) = thRows o l := by
 apply List.ext_getElem?
 intro j
 rw [List.getElem?_map]
 by_cases hj : j < l.length
 ·rw [xF hj]
  simp only [Option.map_some]
  rw [zW (h j hj)]
 ·rw [List.getElem?_eq_none (by rw [zQ]; omega)]
  rfl
theorem qG (o k : Nat) (l : List Th) : (thRows o l).map (scrPL (isK (.n k))) = thRows o l := yE fun _ _ => rfl
theorem aG {a o j i : Nat} {t : Th} (h : i ≠ j) : renL (swp (.n a) (.s o j)) (thRow o i t) = thRow o i t := by
 have e : swp (.n a) (.s o j) (.s o i) = .s o i := by
  simp [swp,Key.beq,nbeq_ne h]
 simp [thRow,renL,ren,e]
theorem dM {a o j : Nat} {l : List Th} (h : l.length ≤ j) : (thRows o l).map (renL (swp (.n a) (.s o j))) = thRows o l := by
 apply List.ext_getElem?
 intro i
 rw [List.getElem?_map]
 by_cases hj : i < l.length
 ·rw [xF hj]
  simp only [Option.map_some]
  rw [aG (by omega)]
 ·rw [List.getElem?_eq_none (by rw [zQ]; omega)]
  rfl
theorem jW (a b o : Nat) (l : List Th) : (thRows o l).map (renL (swp (.n a) (.n b))) = thRows o l := by
 apply List.ext_getElem?
 intro i
 rw [List.getElem?_map]
 by_cases hj : i < l.length
 ·rw [xF hj]
  rfl
 ·rw [List.getElem?_eq_none (by rw [zQ]; omega)]
  rfl
theorem nX (o : Nat) (l : List Th) (t : Th) : thRows o (l ++ [t]) = thRows o l ++ [thRow o l.length t] := by
 apply List.ext_getElem?
 intro i
 rcases Nat.lt_trichotomy i l.length with h | h | h
 ·rw [List.getElem?_append_left (by rw [zQ]; exact h),xF h,xF (l := l ++ [t]) (by simp; omega)]
  simp [List.getElem_append_left h]
 ·subst h
  rw [List.getElem?_append_right (by rw [zQ]; omega),xF (l := l ++ [t]) (by simp)]
  simp [zQ]
 ·rw [List.getElem?_eq_none (by rw [zQ]; simp; omega),List.getElem?_eq_none (by simp [zQ]; omega)]
theorem bK {α : Type} (xs : List α) (k : Nat) (h : k < xs.length) : xs.take (k + 1) = xs.take k ++ [xs[k]] := by
 rw [List.take_add_one,List.getElem?_eq_getElem h]; rfl
theorem q5 (l : List Th) (k a : Nat) (h : k < l.length) (n : Nat) (hn : n = l[k].stack.length) :
  ((((thRows 900 (l.take k)).take k ++ [[i64 l[k].rt,i64 l[k].pc,i64 l[k].st,i64 l[k].cond,i64 l[k].lock,AV.ref (.n a) 0 n]]).map (scrPL (isK (.n 900)))).map (renL (swp (.n a) (.s 900 k)))) = thRows 900 (l.take (k + 1)) ∨ a = 900 := by
 by_cases ha : a = 900
 ·exact .inr ha
 left
 have hl : (l.take k).length = k := by simp; omega
 rw [List.take_of_length_le (by rw [zQ]; omega),List.map_append,List.map_append,qG 900 900,dM (by omega),bK l k h,nX,hl]
 congr 1
 have e1 : isK (.n 900) (.n a) = false := by
  show Nat.beq a 900 = false
  exact nbeq_ne ha
 have e2 : swp (.n a) (.s 900 k) (.n a) = .s 900 k := by simp [swp,zD]
 simp [scrPL,scrP,e1,renL,ren,e2,thRow,hn]
def zR (l : List Th) (j : Nat) : Option Ob := (l[j]?).map fun t => .ds 105 1 (stk t)
theorem yG (p : Key → Bool) (l : List Th) (j : Nat) : (zR l j).map (scrPO p) = zR l j := by
 unfold zR; cases l[j]? <;> rfl
theorem thFam_ren (f : Key → Key) (l : List Th) (j : Nat) : (zR l j).map (renO f) = zR l j := by
 unfold zR; cases l[j]? <;> rfl
theorem rT {l : List Th} {k j : Nat} (h : j ≠ k) : zR (l.take k) j = zR (l.take (k + 1)) j := by
 unfold zR
 rw [List.getElem?_take,List.getElem?_take]
 by_cases h1 : j < k
 ·rw [if_pos h1,if_pos (by omega)]
 ·rw [if_neg h1,if_neg (by omega)]
end Ai
end
section
set_option maxRecDepth 100000
namespace Ai
open Go Go.Proofs
theorem gF (xs : List Nat) (hx : xs.length ≤ 1048576) : CallsTo EE 174 [sl (xs.map encF)] (· = .uq 105 1 (xs.map encF)) := by
 refine callsTo_of_AW (fn := Tryz.f174) Tryz.func174 rfl (by kernel_rfl) rfl ?_
 conv => whnf
 refine ⟨fun h => ?_,?_⟩
 ·have : xs = [] := by simpa using h
  subst this
  conv => whnf
  exact .inr ⟨105,1,rfl⟩
 ·conv => whnf
  refine ⟨⟨by simp [encF],by simp; omega,by simp; omega⟩,?_⟩
  conv => whnf
  exact congrArg (AV.uq 105 1) (by simp [List.take_of_length_le])
theorem CloneI_ok (xs : List Int) (hx : xs.length ≤ 1048576) : CallsTo EE 50 [sl (xs.map encInt)] (· = .uq 3 1 (xs.map encInt)) := by
 refine callsTo_of_AW (fn := Tryz.f50) Tryz.func50 rfl (by kernel_rfl) rfl ?_
 conv => whnf
 refine ⟨fun h => ?_,?_⟩
 ·have : xs = [] := by simpa using h
  subst this
  conv => whnf
  exact .inr ⟨3,1,rfl⟩
 ·conv => whnf
  refine ⟨⟨by simp [encInt],by simp; omega,by simp; omega⟩,?_⟩
  conv => whnf
  exact congrArg (AV.uq 3 1) (by simp [List.take_of_length_le])
theorem CloneT_ok (xs : List Th) (hx : xs.length ≤ 1048576) : CallsTo EE 175 [sl (xs.map zF)] (· = .uq 123 6 (xs.map zF)) := by
 refine callsTo_of_AW (fn := Tryz.f175) Tryz.func175 rfl (by kernel_rfl) rfl ?_
 conv => whnf
 refine ⟨fun h => ?_,?_⟩
 ·have : xs = [] := by simpa using h
  subst this
  conv => whnf
  exact .inr ⟨123,6,rfl⟩
 ·conv => whnf
  refine ⟨⟨by simp [zF],by simp; omega,by simp; omega⟩,?_⟩
  conv => whnf
  exact congrArg (AV.uq 123 6) (by simp [List.take_of_length_le])
theorem CloneE_ok (xs : List Ev) (hx : xs.length ≤ 1048576) : CallsTo EE 147 [sl (xs.map encEv)] (· = .uq 120 5 (xs.map encEv)) := by
 refine callsTo_of_AW (fn := Tryz.f147) Tryz.func147 rfl (by kernel_rfl) rfl ?_
 conv => whnf
 refine ⟨fun h => ?_,?_⟩
 ·have : xs = [] := by simpa using h
  subst this
  conv => whnf
  exact .inr ⟨120,5,rfl⟩
 ·conv => whnf
  refine ⟨⟨by simp [encEv],by simp; omega,by simp; omega⟩,?_⟩
  conv => whnf
  exact congrArg (AV.uq 120 5) (by simp [List.take_of_length_le])
theorem l1Own_ok (xs : List Int) (hx : xs.length ≤ 1048576) : CallsTo EE 83 [sl (xs.map encInt)] (· = .uq 3 1 (xs.map encInt)) := by
 refine callsTo_of_AW (fn := Tryz.f83) Tryz.func83 rfl (by kernel_rfl) rfl ?_
 conv => whnf
 refine ⟨⟨by simp [encInt],by simp; omega,by simp; omega⟩,?_⟩
 conv => whnf
 exact congrArg (AV.uq 3 1) (by simp [List.take_of_length_le])
theorem dD (r : Int) : CallsTo EE 130 [i64 r] (· = agg [di r,di 0,di 1,di (-1),di (-1),.sl []]) := by
 refine callsTo_of_AW (fn := Tryz.f130) Tryz.func130 rfl (by kernel_rfl) rfl ?_
 conv => whnf
 rfl
theorem kG (r : Int) : CallsTo EE 150 [i64 r] (· = .own [i64 r,i64 0,i64 1,i64 (-1),i64 (-1),.uq 105 1 []]) := by
 refine callsTo_of_AW (fn := Tryz.f150) Tryz.func150 rfl (by kernel_rfl) rfl ?_
 conv => whnf
 refine .inr (.inr ⟨_,_,vD 4 905,rfl,?_,?_,rfl⟩)
 ·intro v hv
  simp only [List.mem_cons,List.not_mem_nil,or_false] at hv
  rcases hv with rfl | rfl | rfl | rfl | rfl | rfl <;> trivial
 ·exact gJ ⟨trivial,trivial,trivial,trivial,trivial,rfl,trivial⟩
end Ai
end
section
set_option maxRecDepth 100000
namespace Ai
open Go Go.Proofs
def StL.small (s : StL) : Prop := s.ths.length ≤ 1048576 ∧ (∀ t ∈ s.ths,t.stack.length ≤ 1048576) ∧ s.cells.length ≤ 1048576 ∧ s.owner.length ≤ 1048576
theorem lV (s : StL) (hs : s.small) : CallsTo EE 133 [agg (encSt s)] (· = .own (jY s)) := by
 obtain ⟨s1,s2,s3,s4⟩ := hs
 refine callsTo_of_AW (fn := Tryz.f133) Tryz.func133 rfl (by kernel_rfl) rfl ?_
 conv => whnf
 refine .inr (.inl ⟨12,[],?_⟩)
 conv => whnf
 refine ⟨⟨by simp [encF],by simp; omega,by simp; omega⟩,?_⟩
 conv => whnf
 refine ⟨_,l1Own_ok s.owner s4,.inr ⟨_,rfl,?_⟩⟩
 conv => whnf
 refine ⟨by kernel_rfl,?_⟩
 conv => whnf
 refine aloopF (fun k : Nat => [(1,.ptr 1 0),(2,.ptr 2 0),(3,.ptr 3 0),(17,sl (s.ths.map zF)),(18,i64 (s.ths.map zF).length),(19,i64 k)])
  (fun k => [(2,.vs 76 [.d .nil,.d .nil,.d .nil,i64 0]),(3,.vs 76 [.dref 900 k,.ref 6 0 (0 + (s.cells.map encF).length),.ref 12 0 (s.owner.map encInt).length,i64 s.fault]),(6,.ds 105 1 (s.cells.map encF)),(12,.ds 3 1 (s.owner.map encInt)),(900,.rs 123 6 (thRows 900 (s.ths.take k)))])
  (fun k => [(900,zR (s.ths.take k))]) (fun k => s.ths.length - k) (fun k => k ≤ s.ths.length) 0 (uP 3 900 76 123 6 0 _ (by intro n h; cases h) (by intro h; cases h) rfl rfl) ?_ ?_ ?_ (Nat.zero_le _) ?_
 ·exact ⟨rfl,rfl,rfl,rfl,rfl,rfl,trivial⟩
 ·exact ⟨rfl,rfl,rfl,rfl,rfl,trivial⟩
 ·refine ⟨fun j => ?_,trivial⟩
  simp [zR]
  rfl
 rintro k τ H hk
 conv => whnf
 refine kbi (fun h => ?_) (fun h => ?_)
 ·have hlt := xM h
  conv => whnf
  refine ⟨zF s.ths[k],yB zF hlt rfl,?_⟩
  conv => whnf
  refine ⟨⟨by simp [encF],by simp; have := s2 _ (List.getElem_mem hlt); omega,by simp; have := s2 _ (List.getElem_mem hlt); omega⟩,?_⟩
  conv => whnf
  refine .inr ?_
  conv => whnf
  refine ⟨⟨fun c hc => ?_,?_,?_⟩,?_⟩
  ·have hc : c ∈ [[i64 s.ths[k].rt,i64 s.ths[k].pc,i64 s.ths[k].st,i64 s.ths[k].cond,i64 s.ths[k].lock,AV.ref (.n 23) 0 (0 + (List.map encF s.ths[k].stack).length)]] := hc
   simp only [List.mem_singleton] at hc
   subst hc; rfl
  ·show (k + 1) * 64 ≤ _
   omega
  ·show k + 1 ≤ _
   omega
  conv => whnf
  refine ⟨k + 1,_,jD 23 900 k,by omega,by show s.ths.length - (k + 1) < s.ths.length - k; omega,⟨rfl,rfl,rfl,rfl,rfl,next_i64 hlt (by omega),trivial⟩,⟨rfl,rfl,rfl,rfl,?_,trivial⟩,⟨fun j => ?_,trivial⟩⟩
  ·show some (Ob.rs 123 6 ((((((((thRows 900 (s.ths.take k)).map (scrPL (isK (.n 5)))).map (scrPL (isK (.n 23)))).map (scrPL (isK (.n 23)))).map (scrPL (isK (.n 31)))).take k ++ [[i64 s.ths[k].rt,i64 s.ths[k].pc,i64 s.ths[k].st,i64 s.ths[k].cond,i64 s.ths[k].lock,AV.ref (.n 23) 0 (0 + (List.map encF s.ths[k].stack).length)]]).map (scrPL (isK (.n 900)))).map (renL (swp (.n 23) (.s 900 k))))) = _
   rw [qG,qG,qG,qG]
   rw [(q5 s.ths k 23 hlt _ (by simp)).resolve_right (by omega)]
  ·have hl : (s.ths.take k).length = k := by simp; omega
   by_cases hj : j = k
   ·subst hj
    have e : swp (.n 23) (.s 900 j) (.s 900 j) = .n 23 := by simp [swp,Key.beq]
    show (St.H _ (swp (.n 23) (.s 900 j) (.s 900 j))).map _ = _
    rw [e]
    show some (Ob.ds 105 ti105.sz (List.take 0 [] ++ List.map encF s.ths[j].stack)) = _
    rw [zR,bK s.ths j hlt,List.getElem?_append_right (by omega),hl]
    simp [stk]
   ·have e : swp (.n 23) (.s 900 k) (.s 900 j) = .s 900 j := by simp [swp,Key.beq,nbeq_ne hj]
    show (St.H _ (swp (.n 23) (.s 900 k) (.s 900 j))).map _ = _
    rw [e]
    show ((((((zR (s.ths.take k) j).map (scrPO (isK (.n 5)))).map (scrPO (isK (.n 23)))).map (scrPO (isK (.n 23)))).map (scrPO (isK (.n 31)))).map (scrPO (isK (.n 900)))).map (renO _) = _
    rw [yG,yG,yG,yG,yG,thFam_ren]
    exact rT hj
 ·have hge : s.ths.length ≤ k := by simpa using h
  have hkk : k = s.ths.length := by omega
  subst hkk
  conv => whnf
  refine .inr (.inr ⟨jY s,_,(vD 6 901).trans (vD 12 902),?_,?_,gJ ⟨⟨?_,fun j q hq => ?_⟩,rfl,rfl,trivial,trivial⟩,rfl⟩)
  ·show some [AV.agg [.dref 900 s.ths.length,.ref 901 0 (0 + (List.map encF s.cells).length),.ref 902 0 (List.map encInt s.owner).length,i64 s.fault]] = _
   simp [ownR,ownR1,jY,jV]
   exact ⟨rfl,rfl,rfl⟩
  ·intro v hv
   simp only [jY,List.mem_cons,List.not_mem_nil,or_false] at hv
   rcases hv with rfl | rfl | rfl | rfl
   ·show (s.ths.map bA).length = (s.ths.map stk).length
    simp
   ·trivial
   ·trivial
   ·trivial
  ·show some (Ob.rs 123 6 (((thRows 900 (s.ths.take s.ths.length)).map (renL (swp (.n 6) (.n 901)))).map (renL (swp (.n 12) (.n 902))))) = some (Ob.rs 123 6 (thRows 900 s.ths))
   rw [jW,jW,List.take_length]
  ·show ((zR (s.ths.take s.ths.length) j).map (renO _)).map (renO _) = _
   rw [thFam_ren,thFam_ren,List.take_length,zR]
   rw [List.getElem?_map] at hq
   obtain ⟨t,ht,rfl⟩ := Option.map_eq_some_iff.1 hq
   rw [ht]; rfl
end Ai
end
section
set_option maxRecDepth 100000
namespace Ai
open Go Go.Proofs
def oneF : Nat := 4607182418800017408
def yP (x : Nat) (many : Int) : Option Int :=
 if (1 ≤ many ∧ many ≤ 1000) ∧ fcmp .lss x 0 = false ∧ fcmp .lss x (FloatKind.f64.nearest many) = true then
  (match floatToIntVal .f64 x .i64 with
  |some n => if fcmp .eql (FloatKind.f64.nearest n) x = true then some n else none
  |none => none)
 else none
def zA (c : Int) : Int × Int :=
 if c = 1 ∨ c = 2 ∨ c = 14 then (0,1) else if c = 3 ∨ c = 11 ∨ c = 15 then (1,0) else if 4 ≤ c ∧ c ≤ 9 then (2,1) else (0,0)
theorem sV (c : Int) : CallsTo EE 164 [i64 c] (· = .tup [i64 (zA c).1,i64 (zA c).2]) := by
 refine callsTo_of_AW (fn := Tryz.f164) Tryz.func164 rfl (by kernel_rfl) rfl ?_
 have go1 : (c = 1 ∨ c = 2 ∨ c = 14) → zA c = (0,1) := fun h => by simp [zA,h]
 have go2 : ¬ (c = 1 ∨ c = 2 ∨ c = 14) → (c = 3 ∨ c = 11 ∨ c = 15) → zA c = (1,0) := fun h1 h => by simp [zA,h1,h]
 conv => whnf
 refine kbi (fun h1 => ?_) (fun h1 => ?_)
 ·have : c = 1 := by simpa using h1
  conv => whnf
  rw [go1 (.inl this)]
 conv => whnf
 refine kbi (fun h2 => ?_) (fun h2 => ?_)
 ·have : c = 2 := by simpa using h2
  conv => whnf
  rw [go1 (.inr (.inl this))]
 conv => whnf
 refine kbi (fun h3 => ?_) (fun h3 => ?_)
 ·have : c = 14 := by simpa using h3
  conv => whnf
  rw [go1 (.inr (.inr this))]
 have hn : ¬ (c = 1 ∨ c = 2 ∨ c = 14) := by simp at h1 h2 h3; omega
 conv => whnf
 refine kbi (fun g1 => ?_) (fun g1 => ?_)
 ·have : c = 3 := by simpa using g1
  conv => whnf
  rw [go2 hn (.inl this)]
 conv => whnf
 refine kbi (fun g2 => ?_) (fun g2 => ?_)
 ·have : c = 11 := by simpa using g2
  conv => whnf
  rw [go2 hn (.inr (.inl this))]
 conv => whnf
 refine kbi (fun g3 => ?_) (fun g3 => ?_)
 ·have : c = 15 := by simpa using g3
  conv => whnf
  rw [go2 hn (.inr (.inr this))]
 have hn2 : ¬ (c = 3 ∨ c = 11 ∨ c = 15) := by simp at g1 g2 g3; omega
 conv => whnf
 refine ocase (qF c 4 9) (fun h => ?_) (fun h => ?_)
 ·conv => whnf
  have : zA c = (2,1) := by simp only [zA,if_neg hn,if_neg hn2]; exact if_pos h
  rw [this]
 ·conv => whnf
  have : zA c = (0,0) := by simp only [zA,if_neg hn,if_neg hn2]; exact if_neg h
  rw [this]
def zZ (p : ProgL) (t : Th) : Option OpL := (p.rs.getD t.rt.toNat [])[t.pc.toNat]?
def op0 : OpL := ⟨0,0,0,0⟩
def Th.inP (p : ProgL) (t : Th) : Prop := InR t.rt 0 (p.rs.length - 1) ∧ InR t.pc 0 (p.rs.getD t.rt.toNat []).length
theorem nB (p : ProgL) (t : Th) (hp : p.wf) (h : t.inP p) : CallsTo EE 132 [agg (encProg p),agg (zF t)] (· = .tup [agg (encOp ((zZ p t).getD op0)),bv (zZ p t).isSome]) := by
 refine callsTo_of_AW (fn := Tryz.f132) Tryz.func132 rfl (by kernel_rfl) rfl ?_
 obtain ⟨⟨a1,a2⟩,b1,b2⟩ := h
 have hr : t.rt.toNat < p.rs.length := by omega
 conv => whnf
 refine ⟨zO p.rs[t.rt.toNat],⟨a1,?_,rfl⟩,?_⟩
 ·show (p.rs.map zO)[t.rt.toNat]? = _
  simp [hr]
 conv => whnf
 have hrow : p.rs.getD t.rt.toNat [] = p.rs[t.rt.toNat] := by simp [List.getD_eq_getElem?_getD,hr]
 rw [hrow] at b2
 refine kbi (fun h => ?_) (fun h => ?_)
 ·have h1 : t.pc = (p.rs[t.rt.toNat].length : Int) := by simpa using h
  have h2 : zZ p t = none := by unfold zZ; rw [hrow,h1]; simp
  conv => whnf
  rw [h2]
  rfl
 ·have h1 : t.pc.toNat < p.rs[t.rt.toNat].length := by simp at h; omega
  have h2 : zZ p t = some p.rs[t.rt.toNat][t.pc.toNat] := by unfold zZ; rw [hrow]; simp [h1]
  conv => whnf
  refine ⟨encOp p.rs[t.rt.toNat][t.pc.toNat],⟨b1,?_,rfl⟩,?_⟩
  ·simp [h1]
  conv => whnf
  rw [h2]
  rfl
end Ai
end
section
set_option maxRecDepth 100000
namespace Ai
open Go Go.Proofs
def xB : Prop := ∀ (x : Nat) (many : Int),CallsTo EE 196 [.d (.flt x),i64 many] (· = .tup [i64 ((yP x many).getD 0),bv (yP x many).isSome])
def zS (s : StL) (t : Th) : Option Int := (t.stack.getLast?).bind fun x => yP x s.ths.length
theorem dV (hI : xB) (s : StL) (t : Th) (ht : t.stack.length ≤ 1048576) : CallsTo EE 163 [agg (encSt s),agg (zF t)] (· = i64 ((zS s t).getD (-1))) := by
 refine callsTo_of_AW (fn := Tryz.f163) Tryz.func163 rfl (by kernel_rfl) rfl ?_
 conv => whnf
 refine kbi (fun h => ?_) (fun h => ?_)
 ·have h1 : t.stack = [] := by
   have : (t.stack.map encF).length = 0 := by simpa using h
   simpa using this
  conv => whnf
  simp [zS,h1]
 ·have hne : t.stack ≠ [] := fun e => h (by rw [e]; rfl)
  have hpos : 0 < t.stack.length := List.length_pos_iff.2 hne
  conv => whnf
  refine .inr (.inl ⟨17,[],?_⟩)
  conv => whnf
  refine ⟨encF (t.stack.getLast hne),⟨?_,?_,rfl⟩,?_⟩
  ·rw [zE (by simp; omega) (by simp; omega)]; simp; omega
  ·rw [zE (by simp; omega) (by simp; omega)]
   have e : ((((t.stack.map encF).length : Int) - 1).toNat) = t.stack.length - 1 := by simp
   rw [e,List.getElem?_map,← List.getLast?_eq_getElem?,List.getLast?_eq_some_getLast hne]
   rfl
  conv => whnf
  refine ⟨_,hI _ _,?_⟩
  conv => whnf
  have hj : zS s t = yP (t.stack.getLast hne) (s.ths.map zF).length := by
   unfold zS
   rw [List.getLast?_eq_some_getLast hne]
   simp
  rw [← hj]
  refine ⟨by kernel_rfl,?_⟩
  conv => whnf
  cases h2 : zS s t with
  |none =>
   conv => whnf
   rfl
  |some k =>
   conv => whnf
   rfl
end Ai
end
section
set_option maxRecDepth 100000
namespace Ai
open Go Go.Proofs
def bH (x y : Nat) : Prop := ((zM x = true ∨ zM y = true) ∧ zM x = true ∧ zM y = true) ∨ (¬ (zM x = true ∨ zM y = true) ∧ fcmp .eql x y = true ∧ (jU x ↔ jU y))
theorem oH (x y : Nat) : CallsTo EE 156 [.d (.flt x),.d (.flt y)] (· = bp (bH x y)) := by
 refine callsTo_of_AW (fn := Tryz.f156) Tryz.func156 rfl (by kernel_rfl) rfl ?_
 conv => whnf
 refine ocase (vN x) (fun h => ?_) (fun h => ?_)
 ·conv => whnf
  refine ocase (vN x) (fun h2 => ?_) (fun h2 => ?_)
  ·conv => whnf
   refine ocase (vN y) (fun h3 => ?_) (fun h3 => ?_)
   ·conv => whnf
    exact bpt (.inl ⟨.inl h,h,h3⟩)
   ·conv => whnf
    exact bpf fun e => e.elim (fun a => h3 a.2.2) fun a => a.1 (.inl h)
  ·exact absurd h h2
 ·conv => whnf
  refine ocase (vN y) (fun h3 => ?_) (fun h3 => ?_)
  ·conv => whnf
   refine ocase (vN x) (fun h2 => ?_) (fun h2 => ?_)
   ·exact absurd h2 h
   ·conv => whnf
    exact bpf fun e => e.elim (fun a => h a.2.1) fun a => a.1 (.inr h3)
  ·conv => whnf
   have hn : ¬ (zM x = true ∨ zM y = true) := fun e => e.elim h h3
   refine kbi (fun h4 => ?_) (fun h4 => ?_)
   ·conv => whnf
    refine ocase (qA x) (fun h5 => ?_) (fun h5 => ?_)
    ·conv => whnf
     refine ocase (qA y) (fun h6 => ?_) (fun h6 => ?_)
     ·conv => whnf
      refine kbi (fun h7 => ?_) (fun h7 => ?_)
      ·conv => whnf
       exact bpt (.inr ⟨hn,h4,fun _ => h6,fun _ => h5⟩)
      ·exact absurd (by decide) h7
     ·conv => whnf
      refine kbi (fun h7 => ?_) (fun h7 => ?_)
      ·exact absurd h7 (by decide)
      ·conv => whnf
       exact bpf fun e => e.elim (fun a => hn a.1) fun a => h6 (a.2.2.1 h5)
    ·conv => whnf
     refine ocase (qA y) (fun h6 => ?_) (fun h6 => ?_)
     ·conv => whnf
      refine kbi (fun h7 => ?_) (fun h7 => ?_)
      ·exact absurd h7 (by decide)
      ·conv => whnf
       exact bpf fun e => e.elim (fun a => hn a.1) fun a => h5 (a.2.2.2 h6)
     ·conv => whnf
      refine kbi (fun h7 => ?_) (fun h7 => ?_)
      ·conv => whnf
       exact bpt (.inr ⟨hn,h4,fun a => absurd a h5,fun a => absurd a h6⟩)
      ·exact absurd (by decide) h7
   ·conv => whnf
    exact bpf fun e => e.elim (fun a => hn a.1) fun a => h4 a.2.1
open Classical in
noncomputable def yL (c : Int) (x y : Nat) : Nat :=
 if c = 4 then fop .add x y else if c = 5 then fop .sub x y else if c = 6 then fop .mul x y else if c = 7 then fop .quo x y
 else if c = 8 then (if fcmp .lss x y = true then oneF else 0) else if bH x y then oneF else 0
theorem l7 (c : Int) (x y : Nat) : CallsTo EE 166 [i64 c,.d (.flt x),.d (.flt y)] (· = .d (.flt (yL c x y))) := by
 refine callsTo_of_AW (fn := Tryz.f166) Tryz.func166 rfl (by kernel_rfl) rfl ?_
 conv => whnf
 refine kbi (fun h1 => ?_) (fun h1 => ?_)
 ·have : c = 4 := by simpa using h1
  conv => whnf
  subst this; rfl
 have h1 : ¬ c = 4 := by simpa using h1
 conv => whnf
 refine kbi (fun h2 => ?_) (fun h2 => ?_)
 ·have : c = 5 := by simpa using h2
  conv => whnf
  subst this; rfl
 have h2 : ¬ c = 5 := by simpa using h2
 conv => whnf
 refine kbi (fun h3 => ?_) (fun h3 => ?_)
 ·have : c = 6 := by simpa using h3
  conv => whnf
  subst this; rfl
 have h3 : ¬ c = 6 := by simpa using h3
 conv => whnf
 refine kbi (fun h4 => ?_) (fun h4 => ?_)
 ·have : c = 7 := by simpa using h4
  conv => whnf
  subst this; rfl
 have h4 : ¬ c = 7 := by simpa using h4
 conv => whnf
 refine kbi (fun h5 => ?_) (fun h5 => ?_)
 ·have : c = 8 := by simpa using h5
  conv => whnf
  refine kbi (fun h6 => ?_) (fun h6 => ?_)
  ·conv => whnf
   simp [yL,this,h6]; rfl
  ·conv => whnf
   simp [yL,this,h6]; rfl
 have h5 : ¬ c = 8 := by simpa using h5
 conv => whnf
 refine ocase (oH x y) (fun h => ?_) (fun h => ?_)
 ·conv => whnf
  simp [yL,h1,h2,h3,h4,h5,h]; rfl
 ·conv => whnf
  simp [yL,h1,h2,h3,h4,h5,h]; rfl
def th0 : Th := ⟨0,0,0,0,0,[]⟩
def zT (s : StL) (k : Nat) (o : OpL) : Int :=
 let t := s.ths.getD k th0
 if (t.stack.length : Int) < (zA o.code).1 ∨ 8 < (t.stack.length : Int) - (zA o.code).1 + (zA o.code).2 then 1
 else if (o.code = 13 ∧ s.owner.getD o.a.toNat 0 ≠ k) ∨ (o.code = 16 ∧ s.owner.getD o.b.toNat 0 ≠ k) then 2
 else if o.code = 15 ∧ (zS s t).getD (-1) < 0 then 3
 else if o.code = 14 ∧ s.ths.length = 5 then 4 else 0
def OpL.inS (o : OpL) (s : StL) : Prop := (o.code = 13 → 0 ≤ o.a ∧ o.a < s.owner.length) ∧ (o.code = 16 → 0 ≤ o.b ∧ o.b < s.owner.length)
theorem l3Code_ok (hI : xB) (s : StL) (k : Nat) (o : OpL) (hk : k < s.ths.length) (hs : s.small) (ho : o.inS s) : CallsTo EE 134 [agg (encSt s),i64 k,agg (encOp o)] (· = i64 (zT s k o)) := by
 refine callsTo_of_AW (fn := Tryz.f134) Tryz.func134 rfl (by kernel_rfl) rfl ?_
 have hg : s.ths.getD k th0 = s.ths[k] := by simp [List.getD_eq_getElem?_getD,hk]
 have hst := hs.2.1 _ (List.getElem_mem hk)
 conv => whnf
 refine ⟨zF s.ths[k],yB zF hk rfl,?_⟩
 conv => whnf
 refine ⟨_,sV o.code,?_⟩
 rintro r rfl
 conv => whnf
 have ht : 0 ≤ (zA o.code).1 ∧ (zA o.code).1 ≤ 2 ∧ 0 ≤ (zA o.code).2 ∧ (zA o.code).2 ≤ 1 := by
  unfold zA; split
  ·decide
  ·split
   ·decide
   ·split <;> decide
 have e1 : (IntKind.i64.wrap ((s.ths[k].stack.length : Int) - (zA o.code).1)) = (s.ths[k].stack.length : Int) - (zA o.code).1 := zE (by omega) (by omega)
 refine kbi (fun h1 => ?_) (fun h1 => ?_)
 ·conv => whnf
  have h1 : (s.ths[k].stack.length : Int) < (zA o.code).1 := by simpa using h1
  simp only [zT,hg]
  rw [if_pos (.inl h1)]
 have h1 : ¬ (s.ths[k].stack.length : Int) < (zA o.code).1 := by simpa using h1
 conv => whnf
 rw [show (List.map encF s.ths[k].stack).length = s.ths[k].stack.length by simp,e1,zE (by omega) (by omega)]
 refine kbi (fun h2 => ?_) (fun h2 => ?_)
 ·have h2 : 8 < (s.ths[k].stack.length : Int) - (zA o.code).1 + (zA o.code).2 := by simpa using h2
  conv => whnf
  simp only [zT,hg]
  rw [if_pos (.inr h2)]
 have h2 : ¬ 8 < (s.ths[k].stack.length : Int) - (zA o.code).1 + (zA o.code).2 := by simpa using h2
 have hn1 : ¬ ((s.ths[k].stack.length : Int) < (zA o.code).1 ∨ 8 < (s.ths[k].stack.length : Int) - (zA o.code).1 + (zA o.code).2) := fun e => e.elim h1 h2
 conv => whnf
 have fin : ∀ n : Int,(if (o.code = 13 ∧ s.owner.getD o.a.toNat 0 ≠ k) ∨ (o.code = 16 ∧ s.owner.getD o.b.toNat 0 ≠ k) then 2
   else if o.code = 15 ∧ (zS s s.ths[k]).getD (-1) < 0 then 3
   else if o.code = 14 ∧ s.ths.length = 5 then 4 else 0) = n → AV.d (.int .i64 n) = i64 (zT s k o) := by
  intro n hn
  rw [← hn]
  simp only [zT,hg]
  rw [if_neg hn1]
 have own_get : ∀ (a : Int),0 ≤ a ∧ a < s.owner.length → 0 ≤ a ∧ (s.owner.map encInt)[a.toNat]? = some (encInt (s.owner.getD a.toNat 0)) ∧ (encInt (s.owner.getD a.toNat 0)).length = 1 := by
  intro a ha
  refine ⟨ha.1,?_,rfl⟩
  have : a.toNat < s.owner.length := by omega
  simp [this,List.getD_eq_getElem?_getD]
 -- what comes behind,the code being neither
 have tail0 : ∀ (c : Int),c ≠ 15 → c ≠ 14 → True := fun _ _ _ => trivial
 refine kbi (fun h3 => ?_) (fun h3 => ?_)
 ·have h3 : o.code = 13 := by simpa using h3
  conv => whnf
  refine ⟨_,own_get o.a (ho.1 h3),?_⟩
  conv => whnf
  refine kbi (fun h4 => ?_) (fun h4 => ?_)
  ·have h4 : s.owner.getD o.a.toNat 0 ≠ k := by simpa using h4
   conv => whnf
   exact fin 2 (by rw [if_pos (.inl ⟨h3,h4⟩)])
  have h4 : ¬ s.owner.getD o.a.toNat 0 ≠ k := by simpa using h4
  conv => whnf
  refine kbi (fun h5 => ?_) (fun h5 => ?_)
  ·exact absurd h5 (by simp [h3])
  conv => whnf
  refine kbi (fun h6 => ?_) (fun h6 => ?_)
  ·exact absurd h6 (by simp [h3])
  conv => whnf
  refine kbi (fun h7 => ?_) (fun h7 => ?_)
  ·exact absurd h7 (by simp [h3])
  conv => whnf
  exact fin 0 (by rw [if_neg (by rintro (⟨_,e⟩ | ⟨e,_⟩); exact h4 e; omega),if_neg (by omega),if_neg (by omega)])
 have h3 : ¬ o.code = 13 := by simpa using h3
 conv => whnf
 refine kbi (fun h4 => ?_) (fun h4 => ?_)
 ·have h4 : o.code = 16 := by simpa using h4
  conv => whnf
  refine ⟨_,own_get o.b (ho.2 h4),?_⟩
  conv => whnf
  refine kbi (fun h5 => ?_) (fun h5 => ?_)
  ·have h5 : s.owner.getD o.b.toNat 0 ≠ k := by simpa using h5
   conv => whnf
   exact fin 2 (by rw [if_pos (.inr ⟨h4,h5⟩)])
  have h5 : ¬ s.owner.getD o.b.toNat 0 ≠ k := by simpa using h5
  conv => whnf
  refine kbi (fun h6 => ?_) (fun h6 => ?_)
  ·exact absurd h6 (by simp [h4])
  conv => whnf
  refine kbi (fun h7 => ?_) (fun h7 => ?_)
  ·exact absurd h7 (by simp [h4])
  conv => whnf
  exact fin 0 (by rw [if_neg (by rintro (⟨e,_⟩ | ⟨_,e⟩); exact h3 e; exact h5 e),if_neg (by omega),if_neg (by omega)])
 have h4 : ¬ o.code = 16 := by simpa using h4
 have hn2 : ¬ ((o.code = 13 ∧ s.owner.getD o.a.toNat 0 ≠ k) ∨ (o.code = 16 ∧ s.owner.getD o.b.toNat 0 ≠ k)) := by
  rintro (⟨e,_⟩ | ⟨e,_⟩)
  ·exact h3 e
  ·exact h4 e
 conv => whnf
 refine kbi (fun h5 => ?_) (fun h5 => ?_)
 ·have h5 : o.code = 15 := by simpa using h5
  conv => whnf
  refine ⟨_,dV hI s s.ths[k] hst,?_⟩
  rintro r rfl
  conv => whnf
  refine kbi (fun h6 => ?_) (fun h6 => ?_)
  ·have h6 : (zS s s.ths[k]).getD (-1) < 0 := by simpa using h6
   conv => whnf
   exact fin 3 (by rw [if_neg hn2,if_pos ⟨h5,h6⟩])
  have h6 : ¬ (zS s s.ths[k]).getD (-1) < 0 := fun e => h6 (by simpa using e)
  conv => whnf
  refine kbi (fun h7 => ?_) (fun h7 => ?_)
  ·exact absurd h7 (by simp [h5])
  conv => whnf
  exact fin 0 (by rw [if_neg hn2,if_neg (fun e => h6 e.2),if_neg (by omega)])
 have h5 : ¬ o.code = 15 := by simpa using h5
 conv => whnf
 refine kbi (fun h6 => ?_) (fun h6 => ?_)
 ·have h6 : o.code = 14 := by simpa using h6
  conv => whnf
  refine kbi (fun h7 => ?_) (fun h7 => ?_)
  ·have h7 : s.ths.length = 5 := by
    have : ((s.ths.map zF).length : Int) = 5 := by simpa using h7
    simp at this; omega
   conv => whnf
   exact fin 4 (by rw [if_neg hn2,if_neg (fun e => h5 e.1),if_pos ⟨h6,h7⟩])
  have h7 : ¬ s.ths.length = 5 := fun e => h7 (by simp [e])
  conv => whnf
  exact fin 0 (by rw [if_neg hn2,if_neg (fun e => h5 e.1),if_neg (fun e => h7 e.2)])
 have h6 : ¬ o.code = 14 := by simpa using h6
 conv => whnf
 exact fin 0 (by rw [if_neg hn2,if_neg (fun e => h5 e.1),if_neg (fun e => h6 e.1)])
end Ai
end
section
namespace Ai
open Go
def dropC : Nat → Code → Code
 |n + 1,.seq _ b => dropC n b
 | _,c => c
section
variable {E : Env} {N : Nat} {s : St} {Q : AX → St → Prop}
noncomputable def sH (E : Env) (N : Nat) (K : St → Prop) (Q : AX → St → Prop) : Nat → Code → St → Prop
 | 0,_ => K
 |n + 1,.seq a b => AW E N a (dB (sH E N K Q n b) Q)
 | _ + 1,c => AW E N c Q
theorem iX : ∀ (n : Nat) (c : Code),sH E N (AW E N (dropC n c) Q) Q n c = AW E N c Q
 | 0,c => by cases c <;> rfl
 |n + 1,.seq a b => by
  show AW E N a (dB (sH E N (AW E N (dropC n b) Q) Q n b) Q) = AW E N a (dB (AW E N b Q) Q)
  rw [iX n b]
 |n + 1,c => by cases c <;> first | rfl | (rename_i a b; show AW E N a (dB (sH E N (AW E N (dropC n b) Q) Q n b) Q) = AW E N a (dB (AW E N b Q) Q); rw [iX n b])
theorem kJ {c : Code} (n : Nat) (C : St → Prop) (h1 : ∀ K : St → Prop,(∀ s,C s → K s) → sH E N K Q n c s) (h2 : ∀ s,C s → AW E N (dropC n c) Q s) : AW E N c Q s := by
 rw [← iX (Q := Q) n c]
 exact h1 _ h2
def At (l : List (Nat × AV)) (o : List (Key × Ob)) (f : List (Nat × (Nat → Option Ob))) (s : St) : Prop := oks l s ∧ okh o s ∧ okf f s
theorem At.form {l : List (Nat × AV)} {o : List (Key × Ob)} {f : List (Nat × (Nat → Option Ob))} (h : At l o f s) : ∃ τ H,s = rA l (pY o (fN f ⟨τ,H⟩)) :=
 ⟨s.τ,s.H,by rw [show (⟨s.τ,s.H⟩ : St) = s from rfl,rZ h.2.2,lC h.2.1,lI h.1]⟩
end
end Ai
end
section
set_option maxRecDepth 100000
namespace Ai
open Go Go.Proofs
def StAt (o : Nat) (s : StL) (S : St) : Prop :=
 S.H (.n o) = some (.rs 123 6 (thRows o s.ths)) ∧ (∀ j,(h : j < s.ths.length) → S.H (.s o j) = some (.ds 105 1 (stk s.ths[j]))) ∧
 S.H (.n (o + 1)) = some (.ds 105 1 (s.cells.map encF)) ∧ S.H (.n (o + 2)) = some (.ds 3 1 (s.owner.map encInt))
theorem fz_row {o j : Nat} {t : Th} {S : St} (h : S.H (.s o j) = some (.ds 105 1 (stk t))) : fz1s S (thRow o j t) = some (zF t) := by
 simp [thRow,fz1s,fz1,h,i64,zF,stk,List.take_of_length_le]
theorem fz_st {o : Nat} {s : StL} {S : St} {n m l : Nat} (h : StAt o s S) (hn : n = s.ths.length) (hm : m = s.cells.length) (hl : l = s.owner.length) :
  FzC S [.dref (.n o) n,.ref (.n (o + 1)) 0 m,.ref (.n (o + 2)) 0 l,i64 s.fault] (encSt s) := by
 obtain ⟨h1,h2,h3,h4⟩ := h
 subst hn hm hl
 refine ⟨.sl (s.ths.map zF),_,rfl,⟨_,rfl,?_⟩,.sl (s.cells.map encF),_,rfl,?_,.sl (s.owner.map encInt),_,rfl,?_,di s.fault,[],rfl,rfl,rfl⟩
 ·unfold kE
  rw [h1]
  refine ⟨by simp,fun j row hj hr => ?_⟩
  rw [xF hj] at hr
  simp only [Option.some.injEq] at hr
  subst hr
  exact ⟨zF s.ths[j],by simp [hj],fz_row (h2 j hj)⟩
 ·simp [FzD,fz1,h3,List.take_of_length_le]
 ·simp [FzD,fz1,h4,List.take_of_length_le]
theorem uU {s : StL} {j : Nat} (h : j < s.ths.length) : ownH (jY s) (.s 900 j) = some (.ds 105 1 (stk s.ths[j])) := by
 show ((s.ths.map stk)[j]?).map (Ob.ds 105 1) = _
 simp [h]
theorem n8 {S : St} (a b c d e : Int) : FzC S [i64 a,i64 b,i64 c,i64 d,i64 e] [di a,di b,di c,di d,di e] :=
 ⟨_,_,rfl,rfl,_,_,rfl,rfl,_,_,rfl,rfl,_,_,rfl,rfl,_,_,rfl,rfl,rfl⟩
theorem yH {x X : Ob} {p : Key → Bool} (h : x = X) (hp : scrPO p X = X) : scrPO p x = X := by rw [h]; exact hp
theorem n4 {x : Option Ob} {X : Ob} {p : Key → Bool} (h : x = some X) (hp : scrPO p X = X) : x.map (scrPO p) = some X := by rw [h]; exact congrArg some hp
theorem l3Fault_ok (s : StL) (e : Ev) (n : Int) (hs : s.small) : CallsTo EE 135 [agg (encSt s),agg (encEv e),i64 n] (· = .tup [agg (encSt { s with fault := n }),agg (encEv { e with kind := 12,obj := n })]) := by
 refine callsTo_of_AW (fn := Tryz.f135) Tryz.func135 rfl (by kernel_rfl) rfl ?_
 conv => whnf
 refine ⟨_,lV s hs,?_⟩
 rintro r rfl
 conv => whnf
 refine .inr (.inl ⟨4,[],?_⟩)
 conv => whnf
 refine ⟨by kernel_rfl,?_⟩
 conv => whnf
 refine .inl ?_
 conv => whnf
 refine ⟨[agg (encSt { s with fault := n }),agg (encEv { e with kind := 12,obj := n })],⟨_,_,rfl,⟨_,rfl,fz_st (o := 900) (s := { s with fault := n }) ⟨?_,?_,?_,?_⟩ ?_ ?_ ?_⟩,_,_,rfl,⟨_,rfl,?_⟩,rfl⟩,rfl⟩
 ·conv => lhs; whnf
  refine congrArg some ?_
  repeat (first | rfl | refine yH ?_ (by exact congrArg _ (yE fun _ _ => rfl)))
 ·intro j hj
  conv => lhs; whnf
  repeat (refine n4 ?_ rfl; conv => lhs; whnf)
  rw [uU (s := s) hj]
 ·conv => lhs; whnf
  rfl
 ·conv => lhs; whnf
  rfl
 ·simp
 ·simp
 ·simp
 ·exact n8 e.th 12 n e.lock e.pc
end Ai
end
